import Derived.Test.YthgkkaifdlkciaaDoorYNd01
import Derived.Test.YthgkkaifdlkciaaDoorYNd02
import Derived.Laws.OwnMore
import Derived.Deep.RegionWith
import Derived.Deep.LoopGhost
/- Walks' small laws: a store of a whole row, a new slice, regions in all orders. -/
namespace Go.Proofs.YthgkkaifdlkciaaDoor
open Go.RowKit
set_option linter.unusedVariables false
set_option linter.unusedSimpArgs false

theorem ite_of {c : Prop} [Decidable c] {A B : Prop} (h : c) (ha : A) : if c then A else B := by rw [if_pos h]; exact ha
theorem wp_st {P : Program} {o : Oper} {a : Act} {w : World} {K : Act → World → Prop} {Q : Exit → Act → World → Prop} (T : TypeId) (x y : Operand) (ho : o.op = .store T x y)
    (b off : Nat) (cs : List Value) (hx : a.eval x = .pointer (some ⟨b, off, none⟩)) (hy : a.eval y = .agg cs.toArray) (ht : w.there b off cs.length) (hi : (P.info? T).map (·.size) = some cs.length) (h1 : ∀ v ∈ cs, v.oneCell' = true)
    (h : K (a.put o.dst undef) (w.setCells b off cs)) : o.wp P a w K Q :=
  wp_store_mid T x y ho b off cs.toArray hx hy (by rw [List.size_toArray]; exact ht) (by rw [List.size_toArray]; exact hi) (all_oneCell_toArray h1) h
/-- a new slice of one's own -/
theorem Mm.newOwn {B : Nat} {w0 w : World} {L : List (Nat × List Value × TypeId)} {G : List (Value × TypeId × List Value)} (h : Mm B w0 w L G) (cs : Array Value) (T : TypeId) (n : Nat) (hn : n = cs.toList.length) (hm : n ≤ 2000000) :
    Mm B w0 (w.alloc (.cells cs T)) L ((.slice (some ⟨w.heap.size, 0, none⟩) n n, T, cs.toList) :: G) := by
  have h2 := (h.alloc cs T).addOwn (b := w.heap.size) (cs := cs.toList) (T := T) (List.mem_cons_self ..) n hn hm
  have e : (List.filter (fun x : Nat × List Value × TypeId => x.1 != w.heap.size) ((w.heap.size, cs.toList, T) :: L)) = L := by
    rw [List.filter_cons]
    simp only [bne_self_eq_false, Bool.false_eq_true, if_false]
    rw [List.filter_eq_self]
    intro x hx
    have := (h.blk x hx).2.lt
    simp only [bne_iff_ne, ne_eq]
    omega
  rwa [e] at h2

/-- one block more, if so -/
def ext (f : Bool) (x : Nat × List Value × TypeId) (L : List (Nat × List Value × TypeId)) : List (Nat × List Value × TypeId) := if f = true then x :: L else L
/-- the beginning of a region in drawn order, the world a letter of which Φ is known -/
theorem region_A {P : Program} {ops : Array Oper} {Q : Exit → Act → World → Prop} {id : Nat} {a : Act} {w : World} (S : World → Prop) (L : List Nat) (n : Nat) (Φ : World → Prop) (hn : ops.size = n) (hm : P.follows .mixedOrders = true) (hΦ : Φ w.drew) (hS : ∀ w, Φ w → S w)
    (h : ∀ w, Φ w → Upto S L (Array.replicate n false) w → AnyS P .any ops Q S L n (Array.replicate n false) a w) : (Code.region id ops true).wp P Q a w :=
  region_S S L n hn hm (hS _ hΦ) fun hU => h _ hΦ hU
/-- a whole row read in an operation of a drawn region -/
theorem run_ld {b o T : Nat} {D : List Value} {d : TypeDesc} (hu : Tryd.prog.underlying T = some d) (hd : d.isRow = true) (hi : (Tryd.prog.info? T).map (·.size) = some D.length) (x : Operand) {a : Act} {op : Oper} (ho : op.op = .load T x) (hx : a.eval x = .pointer (some ⟨b, o, none⟩)) {w : World} (h : w.rangeAt b o D) :
    (execOp a.eval op).run Tryd.prog w = .ok (.value (.agg D.toArray)) w := by
  unfold execOp
  simp only [ho, hx, Instr.loadAt, Instr.sureAddr, Sem.run_bind, Sem.run_pure, Result.andThen_ok, run_loadVar_mid w b o T D d h hu hd hi]
theorem ownRow_keep {w w' : World} {B n sz : Nat} {E : TypeId} {v : Value} {xs : List Value} (h : w.ownsRow B E sz v n xs) (hb : Below w.heap.size w w') : w'.ownsRow B E sz v n xs := by
  have hg : w.grownBy w' none := ⟨hb.os, hb.tape, hb.output, hb.size, fun k hk _ => hb.block k hk⟩
  exact World.ownsRow.kept h hg (by by_cases e : v.ownBlock = none <;> simp [e])
theorem blk_own {w : World} {B b : Nat} {cs : List Value} {T : TypeId} (hB : B ≤ b) (h : Blk w b cs T) (n : Nat) (hn : n = cs.length) (hm : n ≤ 2000000) : w.ownsRow B T 1 (.slice (some ⟨b, 0, none⟩) n n) n cs := by
  subst hn
  refine ⟨by simp, .inr ⟨b, cs.length, cs.toArray, rfl, hB, h, ?_⟩⟩
  simp [maxLen]; omega
section
variable {B : Nat} {w0 w : World} {L : List (Nat × List Value × TypeId)} {G : List (Value × TypeId × List Value)}
/-- as Mm.appendRow, at a step of a region in drawn order -/
theorem Mm.stepRow {P : Program} {ops : Array Oper} {o : Oper} {a : Act} {K : Act → World → Prop} {Q : Exit → Act → World → Prop} {F : Prop} (hgd : o.guard = none) (s x : Operand) (t : TypeId)
    (ho : o.op = .call { callee := .builtin .append, args := #[s, x], argTypes := #[t, t] })
    (h : Mm B w0 w L G) (i : Nat) {v : Value} {E : TypeId} {xs : List Value} (hi : G[i]? = some (v, E, xs)) {i0 : TypeInfo} {z : Value} {bytes : Nat} (ht : P.underlying t = some (.slice E)) (hI : P.info? E = some i0) (hz : i0.zero = some z)
    (hsize : i0.size = 1) (hby : i0.bytes = bytes) (hzs : z.cells.size = 1) (hs : a.eval s = v) {u : Value} (hx : a.eval x = u) {B2 n : Nat} {news : List Value} (hn : n = news.length) (hu : w.ownsRow B2 E 1 u n news) (h1 : ∀ y ∈ news, y.oneCell' = true)
    (hlen : xs.length ≤ 1000000) (hlen2 : news.length ≤ 1000000) (hbytes : bytes ≤ 1000)
    (hk : ∀ v' w', Mm B w0 w' L (G.set i (v', E, xs ++ news)) → K (a.put o.dst v') w') :
    if Region.wanted o (yielded ops a.tmps) = true then Oper.wp P o a w K Q else F := by
  have hw : Region.wanted o (yielded ops a.tmps) = true := by simp [Region.wanted, hgd]
  rw [if_pos hw]
  subst hn
  have hov := h.own _ (mem_of_get hi)
  simp only at hov
  rcases id hu.2 with ⟨rfl, h0⟩ | ⟨g, cap, cur, rfl, -⟩
  · have hnil : news = [] := List.eq_nil_of_length_eq_zero (by omega)
    subst hnil
    have hrun := run_append_owned_none (P := P) (w := w) B t o.type E i0 1 ht hI v xs.length xs hov
    unfold Oper.wp
    simp [execOp, ho, resolve, invoke, builtin, hs, hx, hrun, Result.andThen]
    refine hk v w ?_
    rw [List.append_nil]
    have : G.set i (v, E, xs) = G := by
      apply List.ext_getElem?
      intro j
      rw [List.getElem?_set]
      split
      · rename_i e; subst e
        split
        · rw [hi]
        · rename_i hc; rw [List.getElem?_eq_none (by omega)]
      · rfl
    rw [this]; exact h
  · obtain ⟨v', w', hr, a1, a2, _, a4⟩ := run_append_own_at (P := P) w B t o.type E i0 z 1 bytes ht hI hz hsize hby hzs (by decide) v xs.length xs hov ⟨g, 0, none⟩ news.length cap news (by omega) (fun j y hj => World.ownsRow.cells hu (g := g) rfl j y hj) h1 (by unfold maxLen; omega)
      (by calc (xs.length + news.length) * bytes ≤ 2000000 * 1000 := Nat.mul_le_mul (by omega) hbytes
           _ ≤ _ := by omega) h.size
    unfold Oper.wp execOp
    simp only [ho, resolve, invoke, builtin, Sem.run_bind, Sem.run_pure, Result.andThen_ok, List.map_toArray, List.map_cons, List.map_nil, hs, hx, hr]
    exact hk v' w' (h.grow2 i hi rfl a1 a2 a4)
end

end Go.Proofs.YthgkkaifdlkciaaDoor

/- l01Split. -/
namespace Go.Proofs.YthgkkaifdlkciaaDoor
open Go.RowKit
set_option linter.unusedVariables false
set_option linter.unusedSimpArgs false

def stS (l : List ByteArray) : List Value := l.map Value.string
theorem stS_len (l : List ByteArray) : (stS l).length = l.length := by simp [stS]
theorem stS_snoc (l : List ByteArray) (s : ByteArray) : stS (l ++ [s]) = stS l ++ [.string s] := by simp [stS]
theorem infoStr : (Tryd.prog.info? 9).map (fun i => (i.zero, i.size, i.bytes)) = some (some (.string ByteArray.empty), 1, 16) := by kernel_rfl

set_option maxRecDepth 100000 in
set_option maxHeartbeats 1000000 in
theorem l01Split_any (s : ByteArray) (c : Nat) (hs : s.size ≤ 100000) (w : World) :
    Calls Tryd.prog 22 #[.string s, .int .u8 (c : Int)] w fun e w' => ∃ v, e = .returned v ∧ Mm w.heap.size w w' [] [(v, 9, stS (spB s c))] := by
  obtain ⟨i0, hi, hz0, hz1, hz2⟩ := info_parts infoStr
  have hM0 := (Mm.start w).newOwn #[] 9 0 rfl (by omega)
  have HM0 := Lib.hid hM0
  have HE : Hid (spB s c = (spS s c s.size).1 ++ [s.extract (spS s c s.size).2 s.size]) := rfl
  clear hM0
  go_enter Tryd.func22, Tryd.ntmps22
  go_wp2_with fail
  go_loopw [5, 6, 7] (fun o a i wr => ∃ (k b : Nat) (l : List ByteArray), k ≤ s.size ∧ i = .int .i64 (k : Int) ∧ a = .int .i64 (b : Int) ∧ Hid (spS s c k = (l, b)) ∧ Mm w.heap.size w wr [] [(o, 9, stS l)]) (fun _ _ i _ => s.size - (intOf i).toNat)
  case atStart => exact ⟨0, 0, [], Nat.zero_le _, rfl, rfl, rfl, HM0.out⟩
  case round =>
    clear HM0
    obtain ⟨k, b, l, hk, rfl, rfl, HS, hM⟩ := hrel
    have hbk : b ≤ k := by have := spS_le s c k; rw [HS.out] at this; exact this
    have hll : l.length ≤ k := by have := spS_len s c k; rw [HS.out] at this; exact this
    have ek : IntKind.i64.wrap ((k : Int) + 1) = (k : Int) + 1 := IntWalk.i64_in _ (by omega)
    have b0 : (0 : Int) ≤ (b : Int) := by omega
    by_cases hlt : k < s.size
    · have k0 : (0 : Int) ≤ (k : Int) := by omega
      have k1 : (k : Int) < (s.size : Int) := by omega
      have b1 : (b : Int) ≤ (k : Int) := by omega
      have hbe : s[k]! = s[k] := getElem!_pos s k hlt
      have HS2 : Hid (spS s c (k + 1) = if (s[k]).toNat = c then (l ++ [s.extract b k], k + 1) else (l, b)) := by
        show _ = _; rw [spS, HS.out, hbe]
      have hxl : (stS l).length ≤ 1000000 := by rw [stS_len]; omega
      clear hbe
      by_cases hc : (s[k]).toNat = c
      · have HS3 : Hid (spS s c (k + 1) = (l ++ [s.extract b k], k + 1)) := by show _ = _; rw [HS2.out, if_pos hc]
        have j1 : (((s[k]).toNat : Int) == (c : Int)) = true := by rw [hc]; simp
        clear HS2 hc HS
        go_wp2_with (at_builtin; refine Mm.append rfl (.tmp 20) (.tmp 25) 40 rfl hM 0 rfl Tryd.underlying40 hi hz0 hz1 hz2 rfl rfl rfl rfl hxl (by omega) ?_)
        intro g6 c6 w6 hM6
        (try simp only [List.set_cons_zero] at hM6)
        rw [← stS_snoc] at hM6
        have HM6 := Lib.hid hM6
        clear hM hM6
        go_wp2_with fail
        go_roundw
        case rel => exact ⟨k + 1, k + 1, _, by omega, by go_num, by go_num, HS3.out, HM6.out⟩
        case measure => simp [intOf] <;> omega
      · have HS3 : Hid (spS s c (k + 1) = (l, b)) := by show _ = _; rw [HS2.out, if_neg hc]
        have j1 : (((s[k]).toNat : Int) == (c : Int)) = false := by rw [beq_eq_false_iff_ne]; omega
        have HM := Lib.hid hM
        clear HS2 hc HS hM
        go_wp2_with fail
        go_roundw
        case rel => exact ⟨k + 1, b, l, by omega, by go_num, rfl, HS3.out, HM.out⟩
        case measure => simp [intOf] <;> omega
    · obtain rfl : k = s.size := by omega
      have k1 : ¬ ((s.size : Int) < (s.size : Int)) := by omega
      have hxl : (stS l).length ≤ 1000000 := by rw [stS_len]; omega
      have HE2 : Hid (spB s c = l ++ [s.extract b s.size]) := by show _ = _; rw [HE.out, HS.out]
      have b1 : (b : Int) ≤ (s.size : Int) := by omega
      go_wp2_with (at_builtin; refine Mm.append rfl (.tmp 29) (.tmp 33) 40 rfl hM 0 rfl Tryd.underlying40 hi hz0 hz1 hz2 rfl rfl rfl rfl hxl (by omega) ?_)
      intro g6 c6 w6 hM6
      (try simp only [List.set_cons_zero] at hM6)
      rw [← stS_snoc] at hM6
      have HM6 := Lib.hid hM6
      clear hM hM6
      go_wp2_with fail
      go_ret
      rw [HE2.out]
      exact ⟨_, rfl, HM6.out⟩
end Go.Proofs.YthgkkaifdlkciaaDoor

/- Tables: two slices of rows under one pointer, while they are built. -/
namespace Go.Proofs.YthgkkaifdlkciaaDoor
open Go.RowKit
set_option linter.unusedVariables false
set_option linter.unusedSimpArgs false

def i64s (xs : List Int) : List Value := xs.map (Value.int .i64)
theorem i64s_get {xs : List Int} {i : Nat} (h : i < xs.length) : (i64s xs)[i]? = some (.int .i64 (xs[i]?.getD 0)) := by
  simp [i64s, List.getElem?_eq_getElem h]
section
variable {B : Nat} {w w' : World} {T : Nat} {tN tO vN vO : Value} {rN rO : List Value} {N O : List (List Value)} {v5 v6 : Value} {x5 x6 : List Value}
end
section
variable {B : Nat} {w w' : World} {T t g cap n : Nat} {tN tO vN vO v u : Value} {rN rO : List Value} {N O : List (List Value)} {v5 v6 : Value} {x5 x6 : List Value}
end
end Go.Proofs.YthgkkaifdlkciaaDoor

/- What the laws ask of a result that is a slice of numbers. -/
namespace Go.Proofs.YthgkkaifdlkciaaDoor
open Go.RowKit
set_option linter.unusedVariables false
set_option linter.unusedSimpArgs false

/-- v is a slice of the numbers xs, in memory from B on that is its own -/
def OwnI (w : World) (B : Nat) (v : Value) (xs : List Int) : Prop := w.ownsRow B 2 1 v xs.length (i64s xs)
/-- its form -/
theorem OwnI.form {w : World} {B : Nat} {v : Value} {xs : List Int} (h : OwnI w B v xs) : ∃ a c, v = .slice a xs.length c ∧ IntsAt w a xs := by
  rcases h.2 with ⟨rfl, h0⟩ | ⟨g, cap, cur, rfl, h1, hg, h2, h3, h4, h5⟩
  · exact ⟨none, 0, by rw [h0], fun i hi => by omega⟩
  · refine ⟨some ⟨g, 0, none⟩, cap, rfl, fun i hi => ⟨g, 0, rfl, ?_⟩⟩
    rw [Nat.zero_add]
    have := World.ownsRow.cellAt h i (by omega)
    rw [this, i64s_get hi]

def marks (k n : Nat) : List Int := (List.range n).map fun i => ((k + i : Nat) : Int)
theorem marks_length (k n : Nat) : (marks k n).length = n := by simp [marks]

set_option maxHeartbeats 1000000 in
theorem eqI_any (a b : Option Addr) (c d : Nat) (xs ys : List Int) (hx : xs.length ≤ 2000000) (w : World) (ha : IntsAt w a xs) (hb : IntsAt w b ys) :
    Calls Tryd.prog 19 #[.slice a xs.length c, .slice b ys.length d] w (Ret (.bool (decide (xs = ys))) w) := by
  have HA := Lib.hid ha
  have HB := Lib.hid hb
  clear ha hb
  go_enter Tryd.func19, Tryd.ntmps19
  by_cases hl : xs.length = ys.length
  · have hle : ((xs.length : Int) == (ys.length : Int)) = true := by simp; omega
    have hln : ((xs.length : Int) != (ys.length : Int)) = false := by simp; omega
    go_wp2
    go_loopw [5] (fun i wr => ∃ k : Nat, k ≤ xs.length ∧ i = .int .i64 k ∧ Below w.heap.size w wr ∧ Hid (∀ j, j < k → xs[j]? = ys[j]?)) (fun i _ => xs.length - (intOf i).toNat)
    case atStart => exact ⟨0, Nat.zero_le _, rfl, Below.refl _ _, fun j hj => by omega⟩
    case round =>
      obtain ⟨k, hk, rfl, hb, HE⟩ := hrel
      by_cases hlt : k < xs.length
      · obtain ⟨g, off, rfl, hc⟩ := HA.out k hlt
        obtain ⟨g', off', rfl, hc'⟩ := HB.out k (by omega)
        rw [← hb.cell (p := ⟨g, off + k, none⟩) (World.block_lt_of_cell? w _ hc)] at hc
        rw [← hb.cell (p := ⟨g', off' + k, none⟩) (World.block_lt_of_cell? w _ hc')] at hc'
        have i1 : (0 : Int) ≤ (k : Int) := by omega
        have i2 : (k : Int) < (xs.length : Int) := by omega
        have i3 : (k : Int) < (ys.length : Int) := by omega
        have i4 : k < ys.length := by omega
        obtain ⟨x, hx⟩ : ∃ x, x = xs[k]?.getD 0 := ⟨_, rfl⟩
        obtain ⟨y, hy⟩ : ∃ y, y = ys[k]?.getD 0 := ⟨_, rfl⟩
        rw [← hx] at hc
        rw [← hy] at hc'
        by_cases e : x = y
        · have HN : Hid (∀ j, j < k + 1 → xs[j]? = ys[j]?) := fun j hj => by
            by_cases h : j = k
            · subst h
              rw [List.getElem?_eq_getElem hlt, List.getElem?_eq_getElem i4] at *
              simp only [Option.getD_some] at hx hy
              rw [← hx, ← hy, e]
            · exact HE.out j (by omega)
          subst e
          clear hx hy
          go_wp2
          go_quiet (fail)
          go_wp2
          go_roundw
          case rel => exact ⟨k + 1, by omega, by go_num, below_dN hb _, HN⟩
          case measure => simp [intOf]; omega
        · have H : Hid (decide (xs = ys) = false) := by
            show _ = _
            simp only [decide_eq_false_iff_not]; intro h; rw [h] at hx; exact e (hx.trans hy.symm)
          have e' : (x != y) = true := by simpa using e
          clear e hx hy
          go_wp2
          go_quiet (fail)
          go_wp2
          go_ret
          exact ⟨ret_bool H.out.symm, below_dN hb _⟩
      · have H : Hid (decide (xs = ys) = true) := by
          show _ = _
          simp only [decide_eq_true_eq]
          apply List.ext_getElem?
          intro j
          by_cases hj : j < k
          · exact HE.out j hj
          · rw [List.getElem?_eq_none (by omega), List.getElem?_eq_none (by omega)]
        go_wp2
        go_ret
        exact ⟨ret_bool H.out.symm, hb⟩
  · have H : Hid (decide (xs = ys) = false) := by
      show _ = _
      simp only [decide_eq_false_iff_not]; intro e; rw [e] at hl; exact hl rfl
    have hle : ((xs.length : Int) == (ys.length : Int)) = false := by simp; omega
    have hln : ((xs.length : Int) != (ys.length : Int)) = true := by simp; omega
    clear hl
    go_wp2_with fail
    go_ret
    exact ⟨ret_bool H.out.symm, Below.refl _ _⟩

theorem eqI_same (a b : Option Addr) (c d : Nat) (xs : List Int) (hx : xs.length ≤ 2000000) (w : World) (ha : IntsAt w a xs) (hb : IntsAt w b xs) :
    Calls Tryd.prog 19 #[.slice a xs.length c, .slice b xs.length d] w (Ret (.bool true) w) := by
  have := eqI_any a b c d xs xs hx w ha hb
  rwa [show decide (xs = xs) = true from by simp] at this

/-- i numbers marked, from k on; the rest as it was -/
def mixM (k i : Nat) (xs : List Int) : List Int := marks k i ++ xs.drop i
theorem mixM_length (k i : Nat) (xs : List Int) (h : i ≤ xs.length) : (mixM k i xs).length = xs.length := by simp [mixM, marks_length]; omega
theorem mixM_succ (k i : Nat) (xs : List Int) (h : i < xs.length) : (i64s (mixM k i xs)).set i (.int .i64 ((k + i : Nat) : Int)) = i64s (mixM k (i + 1) xs) := by
  have e : marks k (i + 1) = marks k i ++ [((k + i : Nat) : Int)] := by simp [marks, List.range_succ]
  simp only [mixM, i64s, e, List.map_append]
  rw [List.set_append_right _ _ (by simp [marks_length]), List.append_assoc]
  congr 1
  rw [show i - ((marks k i).map (Value.int .i64)).length = 0 by simp [marks_length], List.drop_eq_getElem_cons h, List.map_cons, List.set_cons_zero]
  rfl
theorem mixM_all (k : Nat) (xs : List Int) : mixM k xs.length xs = marks k xs.length := by simp [mixM]
theorem marks_get {k n i : Nat} (h : i < n) : (marks k n)[i]?.getD 0 = ((k + i : Nat) : Int) := by simp [marks, h]

set_option maxHeartbeats 1000000 in
theorem markI_any (B : Nat) (v : Value) (xs : List Int) (k : Nat) (hx : xs.length ≤ 1000000) (hk : k ≤ 1000000) (w : World) (hB : B ≤ w.heap.size) (h : OwnI w B v xs) :
    Calls Tryd.prog 20 #[v, .int .i64 (k : Int)] w fun e w' => e = .returned (.int .i64 ((k + xs.length : Nat) : Int)) ∧ Below B w w' ∧ OwnI w' B v (marks k xs.length) := by
  obtain ⟨a, c, rfl, -⟩ := h.form
  have H0 : Hid (OwnI w B (.slice a xs.length c) (mixM k 0 xs)) := by
    show OwnI _ _ _ _
    simpa [mixM, marks] using h
  clear h
  go_enter Tryd.func20, Tryd.ntmps20
  go_wp2
  go_loopw [1, 5] (fun u i wr => ∃ j : Nat, j ≤ xs.length ∧ i = .int .i64 j ∧ u = .int .i64 ((k + j : Nat) : Int) ∧ Below B w wr ∧ Hid (OwnI wr B (.slice a xs.length c) (mixM k j xs))) (fun _ i _ => xs.length - (intOf i).toNat)
  case atStart => exact ⟨0, Nat.zero_le _, rfl, rfl, Below.refl _ _, H0⟩
  case round =>
    clear H0
    obtain ⟨j, hj, rfl, rfl, hb, HO⟩ := hrel
    by_cases hlt : j < xs.length
    · have hO := HO.out
      have hlen := mixM_length k j xs hj
      obtain ⟨g, rfl, hgB⟩ : ∃ g, a = some ⟨g, 0, none⟩ ∧ B ≤ g := by
        rcases hO.2 with ⟨_, e⟩ | ⟨g, cap, cur, hv, h1, rest⟩
        · omega
        · simp at hv; exact ⟨g, hv.1, h1⟩
      have hO' : wr.ownsRow B 2 1 (.slice (some ⟨g, 0, none⟩) xs.length c) xs.length (i64s (mixM k j xs)) := by
        have := hO; rw [OwnI, hlen] at this; exact this
      have hcell := hO'.cellAt j (by omega)
      rw [i64s_get (by omega)] at hcell
      have hfz := hO'.frozenAt j
      have hset : Hid (OwnI (wr.setCell ⟨g, j, none⟩ (.int .i64 ((k + j : Nat) : Int))) B (.slice (some ⟨g, 0, none⟩) xs.length c) (mixM k (j + 1) xs)) := by
        have := (hO'.stored j (.int .i64 ((k + j : Nat) : Int))).1
        rw [mixM_succ k j xs hlt] at this
        show World.ownsRow _ _ _ _ _ _ _
        rw [mixM_length k (j + 1) xs hlt]
        exact this
      have hb' := hb.setCell (p := ⟨g, j, none⟩) hgB (.int .i64 ((k + j : Nat) : Int))
      have i1 : (0 : Int) ≤ (j : Int) := by omega
      have i2 : (j : Int) < (xs.length : Int) := by omega
      obtain ⟨z, hz⟩ : ∃ z, (mixM k j xs)[j]?.getD 0 = z := ⟨_, rfl⟩
      rw [hz] at hcell
      clear hz hO hO' hlen
      go_wp2
      go_roundw
      case rel => exact ⟨j + 1, by omega, by go_num, by go_num, hb', hset⟩
      case measure => simp [intOf]; omega
    · have hj' : j = xs.length := by omega
      subst hj'
      rw [mixM_all] at HO
      go_wp2
      go_ret
      exact ⟨rfl, hb, HO.out⟩

set_option maxHeartbeats 1000000 in
theorem heldI_any (B : Nat) (v : Value) (k n : Nat) (hx : n ≤ 1000000) (hk : k ≤ 1000000) (w : World) (h : OwnI w B v (marks k n)) :
    Calls Tryd.prog 21 #[v, .int .i64 (k : Int)] w (Ret (.int .i64 ((k + n : Nat) : Int)) w) := by
  obtain ⟨a, c, rfl, hI⟩ := h.form
  rw [marks_length]
  have HI := Lib.hid hI
  clear h hI
  go_enter Tryd.func21, Tryd.ntmps21
  go_wp2
  go_loopw [1, 5] (fun u i wr => ∃ j : Nat, j ≤ n ∧ i = .int .i64 j ∧ u = .int .i64 ((k + j : Nat) : Int) ∧ Below w.heap.size w wr) (fun _ i _ => n - (intOf i).toNat)
  case atStart => exact ⟨0, Nat.zero_le _, rfl, rfl, Below.refl _ _⟩
  case round =>
    obtain ⟨j, hj, rfl, rfl, hb⟩ := hrel
    by_cases hlt : j < n
    · obtain ⟨g, off, rfl, hc⟩ := HI.out j (by rw [marks_length]; exact hlt)
      rw [← hb.cell (p := ⟨g, off + j, none⟩) (World.block_lt_of_cell? w _ hc), marks_get hlt] at hc
      have i1 : (0 : Int) ≤ (j : Int) := by omega
      have i2 : (j : Int) < (n : Int) := by omega
      go_wp2
      go_roundw
      case rel => exact ⟨j + 1, by omega, by go_num, by go_num, hb⟩
      case measure => simp [intOf]; omega
    · have hj' : j = n := by omega
      subst hj'
      go_wp2
      go_ret
      exact ⟨rfl, hb⟩
end Go.Proofs.YthgkkaifdlkciaaDoor

/- codeOf, lead. -/
namespace Go.Proofs.YthgkkaifdlkciaaDoor
open Go.RowKit
set_option linter.unusedVariables false
set_option linter.unusedSimpArgs false

end Go.Proofs.YthgkkaifdlkciaaDoor

/- lead: what a state makes of a word, and its section there. -/
namespace Go.Proofs.YthgkkaifdlkciaaDoor
open Go.RowKit
set_option linter.unusedVariables false
set_option linter.unusedSimpArgs false

end Go.Proofs.YthgkkaifdlkciaaDoor

/- Powers, words of a level, their numbers: contracts of both sides. -/
namespace Go.Proofs.YthgkkaifdlkciaaDoor
open Go.RowKit
set_option linter.unusedVariables false
set_option linter.unusedSimpArgs false

/-! words -/
end Go.Proofs.YthgkkaifdlkciaaDoor

/- What the laws ask of a result that is a slice of strings (at most eight of them). -/
namespace Go.Proofs.YthgkkaifdlkciaaDoor
open Go.RowKit
set_option linter.unusedVariables false
set_option linter.unusedSimpArgs false

def stv (xs : List ByteArray) : List Value := xs.map Value.string
/-- v is a slice of the strings xs, in memory from B on that is its own -/
def OwnS (w : World) (B : Nat) (v : Value) (xs : List ByteArray) : Prop := w.ownsRow B 9 1 v xs.length (stv xs)
theorem OwnS.below {w w' : World} {B : Nat} {v : Value} {xs : List ByteArray} (h : OwnS w B v xs) (hb : Below w.heap.size w w') : OwnS w' B v xs := by
  have hg : w.grownBy w' none := ⟨hb.os, hb.tape, hb.output, hb.size, fun k hk _ => hb.block k hk⟩
  exact World.ownsRow.kept h hg (by by_cases e : v.ownBlock = none <;> simp [e])
theorem OwnS.less {w : World} {B C : Nat} {v : Value} {xs : List ByteArray} (h : OwnS w B v xs) (hC : C ≤ B) : OwnS w C v xs := by
  refine ⟨h.1, ?_⟩
  rcases h.2 with hn | ⟨g, cap, cur, hv, h1, rest⟩
  · exact .inl hn
  · exact .inr ⟨g, cap, cur, hv, by omega, rest⟩
theorem OwnS.nil (w : World) (B : Nat) : OwnS w B (.slice none 0 0) [] := World.ownsRow_nil _ _ _ _

end Go.Proofs.YthgkkaifdlkciaaDoor

/- KnownRelations of the reference. -/
namespace Go.Proofs.YthgkkaifdlkciaaDoor
open Go.RowKit
set_option linter.unusedVariables false
set_option linter.unusedSimpArgs false
/-- the known machines' names -/
def kn : Nat → List UInt8
  | 0 => [97, 100, 100, 105, 110, 103]
  | 1 => [97, 100, 100, 105, 110, 103, 51]
  | 2 => [97, 108, 101, 115, 104, 105, 110]
  | 3 => [98, 97, 115, 105, 108, 105, 99, 97]
  | 4 => [103, 114, 105, 103, 111, 114, 99, 104, 117, 107]
  | 5 => [103, 117, 112, 116, 97]
  | 6 => [104, 97, 110, 111, 105]
  | _ => [108, 97, 109, 112, 108, 105, 103, 104, 116, 101, 114]
/-- their relations -/
def kr : Nat → List ByteArray
  | 4 => [ByteArray.mk #[98, 98], ByteArray.mk #[99, 99], ByteArray.mk #[100, 100], ByteArray.mk #[101, 101], ByteArray.mk #[99, 100, 101], ByteArray.mk #[98, 101, 98, 101, 98, 101, 98, 101]]
  | 5 => [ByteArray.mk #[98, 98, 98], ByteArray.mk #[99, 99, 99], ByteArray.mk #[98, 100]]
  | 6 => [ByteArray.mk #[98, 98], ByteArray.mk #[99, 99], ByteArray.mk #[100, 100]]
  | 7 => [ByteArray.mk #[65, 98, 65, 98], ByteArray.mk #[66, 97, 65, 66, 97, 97, 65, 98, 65, 65, 98, 97]]
  | _ => []
/-- the number of the name, 8 or more if it is none -/
def kno (s : ByteArray) : Nat := (List.range 8).findIdx fun i => s.toList == kn i
theorem kno_of {s : ByteArray} {i : Nat} (hi : i < 8) (h : (s.toList == kn i) = true) : kno s = i := by
  have e : s.toList = kn i := by simpa using h
  rw [kno, e]
  have : ∀ i : Fin 8, (List.range 8).findIdx (fun j => kn i == kn j) = i := by decide
  exact this ⟨i, hi⟩
theorem kno_none {s : ByteArray} (h : ∀ i, i < 8 → (s.toList == kn i) = false) : kno s = 8 := by
  have : (List.range 8).findIdx (fun i => s.toList == kn i) = (List.range 8).length := by
    rw [List.findIdx_eq_length]
    intro x hx
    rw [h x (by simpa using hx)]
  simpa [kno] using this
theorem OwnS.made (w : World) (xs : List ByteArray) (hx : xs.length ≤ 100) : OwnS (w.alloc (.cells (stv xs).toArray 9)) w.heap.size (.slice (some ⟨w.heap.size, 0, none⟩) xs.length xs.length) xs :=
  ⟨by simp [stv], .inr ⟨w.heap.size, xs.length, (stv xs).toArray, rfl, Nat.le_refl _, heap_alloc_new w _, Nat.le_refl _, by simp [maxLen]; omega, by simp [stv], by simp [stv, List.take_of_length_le]⟩⟩
end Go.Proofs.YthgkkaifdlkciaaDoor

/- The first place at which something holds: no program in sight. -/
namespace Go.Proofs.YthgkkaifdlkciaaDoor
set_option linter.unusedVariables false
set_option linter.unusedSimpArgs false

/-- the first number below n that p lets in, or -1 -/
def idxN (p : Nat → Bool) (n : Nat) : Int := match (List.range n).find? p with | some i => (i : Int) | none => -1
theorem idxN_hit {p : Nat → Bool} {n k : Nat} (hk : k < n) (h1 : p k = true) (h2 : ∀ j, j < k → p j = false) : idxN p n = k := by
  have : (List.range n).find? p = some k := by
    rw [List.find?_range_eq_some]
    exact ⟨h1, by simpa using hk, fun j hj => by rw [h2 j hj]; rfl⟩
  rw [idxN, this]
theorem idxN_none {p : Nat → Bool} {n : Nat} (h : ∀ j, j < n → p j = false) : idxN p n = -1 := by
  have : (List.range n).find? p = none := by
    rw [List.find?_eq_none]
    intro x hx
    rw [h x (by simpa using hx)]; decide
  rw [idxN, this]
end Go.Proofs.YthgkkaifdlkciaaDoor

/- KnownRelations of the program. -/
namespace Go.Proofs.YthgkkaifdlkciaaDoor
open Go.RowKit
set_option linter.unusedVariables false
set_option linter.unusedSimpArgs false
/-- their texts -/
def kt : Nat → ByteArray
  | 0 => ByteArray.mk #[50, 58, 48, 97, 49, 97, 44, 49, 97, 48, 98]
  | 1 => ByteArray.mk #[51, 58, 48, 97, 49, 97, 50, 97, 44, 49, 97, 50, 97, 48, 98]
  | 2 => ByteArray.mk #[50, 58, 49, 99, 48, 98, 44, 49, 98, 48, 99, 44, 48, 97, 49, 97]
  | 3 => ByteArray.mk #[50, 58, 48, 97, 49, 97, 44, 48, 97, 49, 99, 44, 49, 97, 48, 98]
  | 4 => ByteArray.mk #[50, 58, 48, 97, 49, 97, 44, 49, 97, 48, 97, 44, 48, 98, 49, 100, 44, 48, 98, 49, 101, 44, 48, 97, 49, 99]
  | 5 => ByteArray.mk #[51, 58, 48, 97, 49, 97, 50, 97, 44, 49, 97, 50, 97, 48, 97, 44, 48, 98, 49, 99, 50, 100, 44, 50, 97, 48, 97, 49, 97]
  | 6 => ByteArray.mk #[51, 58, 48, 97, 49, 97, 50, 97, 44, 49, 97, 48, 97, 50, 98, 44, 50, 97, 49, 99, 48, 97, 44, 48, 100, 50, 97, 49, 97]
  | _ => ByteArray.mk #[50, 58, 48, 97, 49, 98, 44, 49, 97, 48, 98]
/-- the slice of its relations, made from block n on -/
def ks (n : Nat) : Nat → Value
  | 4 => .slice (some ⟨n, 0, none⟩) 6 6
  | 5 => .slice (some ⟨n + 1, 0, none⟩) 3 3
  | 6 => .slice (some ⟨n + 1 + 1, 0, none⟩) 3 3
  | 7 => .slice (some ⟨n + 1 + 1 + 1, 0, none⟩) 2 2
  | _ => .slice none 0 0
def kRow (n i : Nat) : List Value := [.string ⟨(kn i).toArray⟩, .string (kt i), ks n i]

def kCells (n : Nat) : List Value := kRow n 0 ++ (kRow n 1 ++ (kRow n 2 ++ (kRow n 3 ++ (kRow n 4 ++ (kRow n 5 ++ (kRow n 6 ++ kRow n 7))))))
def kW4 (w : World) : World := (((w.alloc (.cells (stv (kr 4)).toArray 9)).alloc (.cells (stv (kr 5)).toArray 9)).alloc (.cells (stv (kr 6)).toArray 9)).alloc (.cells (stv (kr 7)).toArray 9)
def kW (w : World) : World := (kW4 w).alloc (.cells (kCells w.heap.size).toArray 42)
theorem below1 (w : World) (o : Obj) : Below w.heap.size w (w.alloc o) := (Below.refl _ _).alloc (Nat.le_refl _) o
theorem OwnS.at {w : World} {n B : Nat} (hn : w.heap.size = n) (hB : B ≤ n) (xs : List ByteArray) (hx : xs.length ≤ 100) : OwnS (w.alloc (.cells (stv xs).toArray 9)) B (.slice (some ⟨n, 0, none⟩) xs.length xs.length) xs := by
  subst hn; exact (OwnS.made w xs hx).less hB
theorem kW4_size (w : World) : (kW4 w).heap.size = w.heap.size + 1 + 1 + 1 + 1 := by simp [kW4]
theorem kW4_below (w : World) : Below w.heap.size w (kW4 w) := by
  refine ((((Below.refl _ _).alloc (Nat.le_refl _) _).alloc ?_ _).alloc ?_ _).alloc ?_ _ <;> simp <;> omega
theorem known_post (w : World) : ∃ g, Ending.returned (.slice (some ⟨w.heap.size + 1 + 1 + 1 + 1, 0, none⟩) 8 8) = .returned (.slice (some ⟨g, 0, none⟩) 8 8) ∧ Below w.heap.size w (kW w) ∧ w.heap.size ≤ g ∧ g < (kW w).heap.size ∧ (∀ i, i < 8 → (kW w).rangeAt g (i * 3) (kRow w.heap.size i)) ∧ ∀ i, i < 8 → OwnS (kW w) w.heap.size (ks w.heap.size i) (kr i) := by
  have hsz := kW4_size w
  refine ⟨w.heap.size + 1 + 1 + 1 + 1, rfl, (kW4_below w).alloc (kW4_below w).size _, by omega, by rw [kW, World.size_alloc, hsz]; omega, fun i hi => ?_, fun i hi => ?_⟩
  · have hB := Blk.new (kW4 w) (kCells w.heap.size).toArray 42
    rw [hsz] at hB
    refine hB.range (i * 3) _ (fun j v hj => ?_)
    have hj3 : j < 3 := (List.getElem?_eq_some_iff.1 hj).1
    rcases (by omega : i = 0 ∨ i = 1 ∨ i = 2 ∨ i = 3 ∨ i = 4 ∨ i = 5 ∨ i = 6 ∨ i = 7) with rfl | rfl | rfl | rfl | rfl | rfl | rfl | rfl <;>
      rcases (by omega : j = 0 ∨ j = 1 ∨ j = 2) with rfl | rfl | rfl <;> exact hj
  · have h4 := OwnS.at (w := w) rfl (Nat.le_refl _) (kr 4) (by decide)
    have h5 := OwnS.at (w := (w.alloc (.cells (stv (kr 4)).toArray 9))) (n := w.heap.size + 1) (B := w.heap.size) (by simp) (by omega) (kr 5) (by decide)
    have h6 := OwnS.at (w := ((w.alloc (.cells (stv (kr 4)).toArray 9)).alloc (.cells (stv (kr 5)).toArray 9))) (n := w.heap.size + 1 + 1) (B := w.heap.size) (by simp) (by omega) (kr 6) (by decide)
    have h7 := OwnS.at (w := (((w.alloc (.cells (stv (kr 4)).toArray 9)).alloc (.cells (stv (kr 5)).toArray 9)).alloc (.cells (stv (kr 6)).toArray 9))) (n := w.heap.size + 1 + 1 + 1) (B := w.heap.size) (by simp) (by omega) (kr 7) (by decide)
    rcases (by omega : i = 0 ∨ i = 1 ∨ i = 2 ∨ i = 3 ∨ i = 4 ∨ i = 5 ∨ i = 6 ∨ i = 7) with rfl | rfl | rfl | rfl | rfl | rfl | rfl | rfl
    · exact OwnS.nil _ _
    · exact OwnS.nil _ _
    · exact OwnS.nil _ _
    · exact OwnS.nil _ _
    · exact (((h4.below (below1 _ _)).below (below1 _ _)).below (below1 _ _)).below (below1 _ _)
    · exact ((h5.below (below1 _ _)).below (below1 _ _)).below (below1 _ _)
    · exact (h6.below (below1 _ _)).below (below1 _ _)
    · exact h7.below (below1 _ _)

set_option maxRecDepth 100000 in
set_option maxHeartbeats 4000000 in
theorem knownOnes_any (w : World) : Calls Tryd.prog 24 #[] w fun e w' => ∃ g, e = .returned (.slice (some ⟨g, 0, none⟩) 8 8) ∧ Below w.heap.size w w' ∧ w.heap.size ≤ g ∧ g < w'.heap.size ∧ (∀ i, i < 8 → w'.rangeAt g (i * 3) (kRow w.heap.size i)) ∧ ∀ i, i < 8 → OwnS w' w.heap.size (ks w.heap.size i) (kr i) := by
  go_enter Tryd.func24, Tryd.ntmps24
  go_wp2_with fail
  go_ret
  exact known_post w

theorem enters_find1 : Enters 26 := fun args w => by kernel_rfl
set_option maxRecDepth 100000 in
set_option maxHeartbeats 1000000 in
theorem find1_any (n i p1 : Nat) (s : ByteArray) (w : World) (h1 : w.cell? ⟨p1, 0, none⟩ = some (.string s)) :
    Calls Tryd.prog 26 #[.agg (kRow n i).toArray, .pointer (some ⟨p1, 0, none⟩)] w (Ret (.bool (kn i == s.toList)) w) := by
  have hlt : p1 < w.heap.size := World.block_lt_of_cell? w _ h1
  obtain ⟨L, hL⟩ : ∃ L, L = kn i := ⟨_, rfl⟩
  rw [kRow, ← hL]
  generalize kt i = u at *
  generalize ks n i = v at *
  clear hL
  have h2 : (w.alloc (.cells #[.string ⟨L.toArray⟩, .string u, v] 42)).cell? ⟨p1, 0, none⟩ = some (.string s) := (World.cell?_of_block (w := w) (a := ⟨p1, 0, none⟩) (Below.heap_alloc _ _ _ hlt)).trans h1
  go_enter Tryd.func26, Tryd.ntmps26
  go_wp2_with fail
  go_ret
  exact ⟨rfl, below1 _ _⟩

set_option maxRecDepth 100000 in
set_option maxHeartbeats 1000000 in
theorem indexFuncK_any (k : Nat) (hent : Enters k) (cap : Array Value) (g n c : Nat) (hn : n ≤ 1000000) (rv : Nat → List Value) (hl : ∀ i, (rv i).length = 3) (p : Nat → Bool) (w : World)
    (hc : ∀ i, i < n → w.rangeAt g (i * 3) (rv i)) (hf : ∀ W, Below w.heap.size w W → ∀ i, i < n → Calls Tryd.prog k (#[.agg (rv i).toArray] ++ cap) W (Ret (.bool (p i)) W)) :
    Calls Tryd.prog 25 #[.slice (some ⟨g, 0, none⟩) n c, .func (.func k) #[] cap] w (Ret (.int .i64 (idxN p n)) w) := by
  have hent' : ∀ args w, Sem.run Tryd.prog (callFunc k args) w = .ok (.enter k args) w := hent
  have HC := Lib.hid hc
  have HF := Lib.hid hf
  have HI := Lib.hid (fun i => (show (Tryd.prog.info? 42).map (·.size) = some (rv i).length by rw [hl i]; kernel_rfl))
  clear hc hf hent
  go_enter Tryd.func25, Tryd.ntmps25
  go_wp2_with fail
  go_loopw [8] (fun i wr => ∃ j : Nat, j ≤ n ∧ i = .int .i64 j ∧ Below w.heap.size w wr ∧ Hid (∀ i, i < j → p i = false)) (fun i _ => n - (intOf i).toNat)
  case atStart => exact ⟨0, Nat.zero_le _, rfl, Below.refl _ _, fun i hi => by omega⟩
  case round =>
    obtain ⟨j, hj, rfl, hb, HN⟩ := hrel
    by_cases hlt : j < n
    · have hr : wr.rangeAt g (j * 3) (rv j) := fun i v hi => by
        have h := HC.out j hlt i v hi
        exact (hb.cell (p := ⟨g, j * 3 + i, none⟩) (World.block_lt_of_cell? w _ h)).trans h
      have hi := HI.out j
      have i1 : (j : Int) < (n : Int) := by omega
      have i2 : (0 : Int) ≤ (j : Int) := by omega
      have hcall : Hid (Calls Tryd.prog k (#[.agg (rv j).toArray] ++ cap) wr (Ret (.bool (p j)) wr)) := HF.out wr hb j hlt
      generalize rv j = v at *
      have HI1 := Lib.hid hi
      clear hi
      go_wp2_with ((with_reducible refine ld_row ?_ 42 (.tmp 14) ?_ g (j * 3) ?_ v (.struct _) hr Tryd.underlying42 ?_ HI1.out ?_); exact rfl; exact rfl; exact rfl; exact rfl)
      refine hcall.out.mono ?_
      rintro e w1 ⟨rfl, hb1⟩
      have hbb := hb.trans (hb1.mono hb.size)
      clear hcall hr
      cases hp : p j
      · have HJ : Hid (∀ i, i < j + 1 → p i = false) := fun i hi => by
          by_cases e : i = j
          · subst e; exact hp
          · exact HN.out i (by omega)
        clear hp
        go_wp2_with fail
        go_roundw
        case rel => exact ⟨j + 1, by omega, by go_num, hbb, HJ⟩
        case measure => simp [intOf] <;> omega
      · have HJ := Lib.hid (idxN_hit hlt hp HN.out)
        clear hp
        go_wp2_with fail
        go_ret
        exact ⟨ret_int HJ.out.symm, hbb⟩
    · have HJ := Lib.hid (idxN_none (p := p) (n := n) (fun i hi => HN.out i (by omega)))
      have hj' : ¬ (j : Int) < n := by omega
      go_wp2_with fail
      go_ret
      exact ⟨ret_int HJ.out.symm, hb⟩
end Go.Proofs.YthgkkaifdlkciaaDoor

/- find, and KnownRelations of the program. -/
namespace Go.Proofs.YthgkkaifdlkciaaDoor
open Go.RowKit
set_option linter.unusedVariables false
set_option linter.unusedSimpArgs false
theorem results_cell_tmp {P : Program} {fn : Func} {p q : Tmp} {ty : TypeId} (h : fn.results = #[.cell p ty, .tmp q]) (tmps : Array Value) (w : World) (g : Nat) (t : TypeId) (cs : Array Value) (fr : Nat × Nat) (d : TypeDesc)
    (hp : tmps.getD p undef = .pointer (some ⟨g, 0, none⟩)) (hg : w.heap[g]? = some (.cells cs t fr))
    (hu : P.underlying ty = some d) (hd : (match d with | .struct _ | .array _ _ => true | _ => false) = true) (hi : (P.info? ty).map (·.size) = some cs.size) :
    (results fn tmps).run P w = .ok (.tuple #[.agg cs, tmps.getD q undef]) w := by
  have hp' : tmps[p]?.getD undef = .pointer (some ⟨g, 0, none⟩) := by simpa using hp
  simp [results, h, hp', asAddr, run_loadVar_row w g t ty cs fr d hg hu hd hi]
theorem idx_kno {s : ByteArray} (h : kno s < 8) : idxN (fun i => kn i == s.toList) 8 = (kno s : Int) := by
  have h' : (s.toList == kn (kno s)) = true := by
    have := List.findIdx_getElem (p := fun i => s.toList == kn i) (xs := List.range 8) (w := by simpa [kno] using h)
    simpa [kno] using this
  have e : s.toList = kn (kno s) := by simpa using h'
  refine idxN_hit h (by simp [e]) (fun j hj => ?_)
  cases hh : kn j == s.toList
  · rfl
  · exact absurd (kno_of (s := s) (i := j) (by omega) (by simpa using (by simpa using hh : kn j = s.toList).symm)) (by omega)
theorem idx_none {s : ByteArray} (h : ¬ kno s < 8) : idxN (fun i => kn i == s.toList) 8 = -1 := by
  refine idxN_none (fun j hj => ?_)
  cases hh : kn j == s.toList
  · rfl
  · exact absurd (kno_of (s := s) (i := j) hj (by simpa using (by simpa using hh : kn j = s.toList).symm)) (by omega)

theorem OwnS.setOld {w : World} {C : Nat} {v : Value} {xs : List ByteArray} (h : OwnS w C v xs) {b : Nat} (hb : b < C) (i : Nat) (u : Value) : OwnS (w.setCell ⟨b, i, none⟩ u) C v xs := by
  refine ⟨h.1, ?_⟩
  rcases h.2 with hn | ⟨g, cap, cur, hv, h1, h2, rest⟩
  · exact .inl hn
  · exact .inr ⟨g, cap, cur, hv, h1, (heap_setCell_other w ⟨b, i, none⟩ g u (by show g ≠ b; omega)).trans h2, rest⟩

set_option maxRecDepth 100000 in
set_option maxHeartbeats 4000000 in
theorem find_any (s : ByteArray) (w : World) : Calls Tryd.prog 15 #[.string s] w fun e w' => ∃ x y a l c, e = .returned (.tuple #[.agg #[.string x, .string y, .slice a l c], .bool (decide (kno s < 8))]) ∧ Below w.heap.size w w' ∧ (kno s < 8 → y = kt (kno s) ∧ OwnS w' w.heap.size (.slice a l c) (kr (kno s))) := by
  go_enter Tryd.func15, Tryd.ntmps15
  go_wp2_with fail
  have hs0 : ((w.alloc (.cells #[.string s] 9)).alloc (.cells #[.string ⟨#[]⟩, .string ⟨#[]⟩, .slice none 0 0] 42)).cell? ⟨w.heap.size, 0, none⟩ = some (.string s) :=
    (World.cell?_of_block (a := ⟨w.heap.size, 0, none⟩) (Below.heap_alloc _ _ _ (by simp))).trans ((Blk.new w #[.string s] 9).cell' (i := 0) rfl)
  have hZ0 : Blk ((w.alloc (.cells #[.string s] 9)).alloc (.cells #[.string ⟨#[]⟩, .string ⟨#[]⟩, .slice none 0 0] 42)) (w.heap.size + 1) [.string ⟨#[]⟩, .string ⟨#[]⟩, .slice none 0 0] 42 := by
    have := Blk.new (w.alloc (.cells #[.string s] 9)) #[.string ⟨#[]⟩, .string ⟨#[]⟩, .slice none 0 0] 42
    rwa [World.size_alloc] at this
  have hb0 : Below w.heap.size w ((w.alloc (.cells #[.string s] 9)).alloc (.cells #[.string ⟨#[]⟩, .string ⟨#[]⟩, .slice none 0 0] 42)) := ((Below.refl _ _).alloc (Nat.le_refl _) _).alloc (by simp) _
  refine (knownOnes_any _).mono ?_
  generalize ((w.alloc (.cells #[.string s] 9)).alloc (.cells #[.string ⟨#[]⟩, .string ⟨#[]⟩, .slice none 0 0] 42)) = w0 at *
  rintro e w1 ⟨g, rfl, hb1, hg, hg1, hR, hO⟩
  have hs1 := (hb1.cell (p := ⟨w.heap.size, 0, none⟩) (World.block_lt_of_cell? _ _ hs0)).trans hs0
  have hZ1 := hZ0.keep hb1
  have hbb1 := hb0.trans (hb1.mono hb0.size)
  have HR := Lib.hid hR
  have HO := Lib.hid hO
  have HF : Hid (Calls Tryd.prog 25 #[.slice (some ⟨g, 0, none⟩) 8 8, .func (.func 26) #[] #[.pointer (some ⟨w.heap.size, 0, none⟩)]] w1 (Ret (.int .i64 (idxN (fun i => kn i == s.toList) 8)) w1)) :=
    indexFuncK_any 26 enters_find1 #[.pointer (some ⟨w.heap.size, 0, none⟩)] g 8 8 (by omega) (kRow w0.heap.size) (fun i => rfl) (fun i => kn i == s.toList) w1 hR
      (fun W hW i hi => find1_any w0.heap.size i w.heap.size s W ((hW.cell (p := ⟨w.heap.size, 0, none⟩) (World.block_lt_of_cell? _ _ hs1)).trans hs1))
  have hgn : w.heap.size ≤ w0.heap.size := hb0.size
  have HGN : Hid (w.heap.size + 1 < w0.heap.size) := hZ0.lt
  clear hR hO hs0 hZ0 hs1
  go_wp2_with fail
  refine HF.out.mono ?_
  rintro e w2 ⟨rfl, hb2⟩
  have hZ2 := hZ1.keep hb2
  have hbb2 := hbb1.trans (hb2.mono hbb1.size)
  clear HF
  by_cases hk : kno s < 8
  · rw [idx_kno hk]
    obtain ⟨q, hq⟩ : ∃ q, q = kno s := ⟨_, rfl⟩
    rw [← hq] at hk ⊢
    have hr := HR.out q hk
    have hr2 : w2.rangeAt g (q * 3) (kRow w0.heap.size q) := fun i v hi => by
      have h := hr i v hi
      exact (hb2.cell (p := ⟨g, q * 3 + i, none⟩) (World.block_lt_of_cell? w1 _ h)).trans h
    have HOq := Lib.hid ((HO.out q hk).below hb2)
    obtain ⟨a, l, c, hsl⟩ : ∃ a l c, ks w0.heap.size q = .slice a l c := by unfold ks; split <;> exact ⟨_, _, _, rfl⟩
    have i1 : ¬ (q : Int) < 0 := by omega
    have i2 : (0 : Int) ≤ (q : Int) := by omega
    have i3 : (q : Int) < 8 := by omega
    rw [kRow, hsl] at hr2
    have HQ := Lib.hid hq
    obtain ⟨X, hX⟩ : ∃ X, X = (⟨(kn q).toArray⟩ : ByteArray) := ⟨_, rfl⟩
    obtain ⟨Y, hY⟩ : ∃ Y, Y = kt q := ⟨_, rfl⟩
    rw [← hX, ← hY] at hr2
    have f0 : w2.cell? ⟨g, q * 3, none⟩ = some (.string X) := hr2 0 _ rfl
    have f1 : w2.cell? ⟨g, q * 3 + 1, none⟩ = some (.string Y) := hr2 1 _ rfl
    have f2 : w2.cell? ⟨g, q * 3 + 2, none⟩ = some (.slice a l c) := hr2 2 _ rfl
    have z0 := hZ2.cell' (i := 0) rfl
    have z1 := hZ2.cell' (i := 1) rfl
    have z2 := hZ2.cell' (i := 2) rfl
    have y0 := hZ2.free 0
    have y1 := hZ2.free 1
    have y2 := hZ2.free 2
    have HZ := Lib.hid hZ2
    rw [hsl] at HOq
    have HBB := Lib.hid hbb2
    have HYQ := Lib.hid hY
    clear hX hY hsl hq hr HO HR hr2 hZ1 hZ2
    go_wp2_with fail
    have hfin := ((HZ.out.setCell 0 (Value.string X)).setCell 1 (Value.string Y)).setCell 2 (Value.slice a l c)
    have hbe := ((HBB.out.setCell (p := ⟨w.heap.size + 1, 0, none⟩) (by simp) (Value.string X)).setCell (p := ⟨w.heap.size + 1, 1, none⟩) (by simp) (Value.string Y)).setCell (p := ⟨w.heap.size + 1, 2, none⟩) (by simp) (Value.slice a l c)
    refine bodyPost_ret (v := .tuple #[.agg #[Value.string X, Value.string Y, Value.slice a l c], .bool true]) (results_cell_tmp Tryd.results15 _ _ (w.heap.size + 1) 42 #[Value.string X, Value.string Y, Value.slice a l c] (0, 0) (.struct _) rfl hfin Tryd.underlying42 rfl (by kernel_rfl)) rfl ?_
    refine ⟨X, Y, a, l, c, by rw [← HQ.out, decide_eq_true hk], hbe, fun _ => ?_⟩
    rw [← HQ.out]
    exact ⟨HYQ.out, (((HOq.out.setOld HGN.out 0 _).setOld HGN.out 1 _).setOld HGN.out 2 _).less hgn⟩
  · rw [idx_none hk]
    have HK := Lib.hid hk
    have z0 := hZ2.cell' (i := 0) rfl
    have z1 := hZ2.cell' (i := 1) rfl
    have z2 := hZ2.cell' (i := 2) rfl
    have y0 := hZ2.free 0
    have y1 := hZ2.free 1
    have y2 := hZ2.free 2
    have HZ := Lib.hid hZ2
    have HBB := Lib.hid hbb2
    clear hk HO HR hZ1 hZ2
    go_wp2_with fail
    have hfin := ((HZ.out.setCell 0 (Value.string ⟨#[]⟩)).setCell 1 (Value.string ⟨#[]⟩)).setCell 2 (Value.slice none 0 0)
    have hbe := ((HBB.out.setCell (p := ⟨w.heap.size + 1, 0, none⟩) (by simp) (Value.string ⟨#[]⟩)).setCell (p := ⟨w.heap.size + 1, 1, none⟩) (by simp) (Value.string ⟨#[]⟩)).setCell (p := ⟨w.heap.size + 1, 2, none⟩) (by simp) (Value.slice none 0 0)
    refine bodyPost_ret (v := .tuple #[.agg #[Value.string ⟨#[]⟩, Value.string ⟨#[]⟩, Value.slice none 0 0], .bool false]) (results_cell_tmp Tryd.results15 _ _ (w.heap.size + 1) 42 #[Value.string ⟨#[]⟩, Value.string ⟨#[]⟩, Value.slice none 0 0] (0, 0) (.struct _) rfl hfin Tryd.underlying42 rfl (by kernel_rfl)) rfl ?_
    exact ⟨_, _, _, _, _, by rw [decide_eq_false HK.out], hbe, fun h => absurd h HK.out⟩

end Go.Proofs.YthgkkaifdlkciaaDoor
