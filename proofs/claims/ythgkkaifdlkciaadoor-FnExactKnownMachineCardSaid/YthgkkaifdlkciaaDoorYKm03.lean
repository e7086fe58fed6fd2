import Derived.Test.YthgkkaifdlkciaaDoorYKm01
import Derived.Test.YthgkkaifdlkciaaDoorYKm02
import Derived.Laws.OwnMore
import Derived.Deep.RegionWith
import Derived.Deep.LoopGhost
/- Walks' small laws: a store of a whole row, a new slice, regions in all orders. -/
namespace Go.Proofs.YthgkkaifdlkciaaDoor
open Go.RowKit
set_option linter.unusedVariables false
set_option linter.unusedSimpArgs false

theorem ite_of {c : Prop} [Decidable c] {A B : Prop} (h : c) (ha : A) : if c then A else B := by rw [if_pos h]; exact ha
theorem wp_st {P : Program} {o : Oper} {a : Act} {w : World} {K : Act → World → Prop} {Q : Exit → Act → World → Prop} (T : TypeId) (x y : Operand) (ho : o.op = .store T x y)
    (b off : Nat) (cs : List Value) (hx : a.eval x = .pointer (some ⟨b, off, none⟩)) (hy : a.eval y = .agg cs.toArray) (ht : w.there b off cs.length) (hi : (P.info? T).map (·.size) = some cs.length) (h1 : ∀ v ∈ cs, v.oneCell' = true)
    (h : K (a.put o.dst undef) (w.setCells b off cs)) : o.wp P a w K Q :=
  wp_store_mid T x y ho b off cs.toArray hx hy (by rw [List.size_toArray]; exact ht) (by rw [List.size_toArray]; exact hi) (all_oneCell_toArray h1) h
/-- a new slice of one's own -/
theorem Mm.newOwn {B : Nat} {w0 w : World} {L : List (Nat × List Value × TypeId)} {G : List (Value × TypeId × List Value)} (h : Mm B w0 w L G) (cs : Array Value) (T : TypeId) (n : Nat) (hn : n = cs.toList.length) (hm : n ≤ 2000000) :
    Mm B w0 (w.alloc (.cells cs T)) L ((.slice (some ⟨w.heap.size, 0, none⟩) n n, T, cs.toList) :: G) := by
  have h2 := (h.alloc cs T).addOwn (b := w.heap.size) (cs := cs.toList) (T := T) (List.mem_cons_self ..) n hn hm
  have e : (List.filter (fun x : Nat × List Value × TypeId => x.1 != w.heap.size) ((w.heap.size, cs.toList, T) :: L)) = L := by
    rw [List.filter_cons]
    simp only [bne_self_eq_false, Bool.false_eq_true, if_false]
    rw [List.filter_eq_self]
    intro x hx
    have := (h.blk x hx).2.lt
    simp only [bne_iff_ne, ne_eq]
    omega
  rwa [e] at h2

/-- one block more, if so -/
def ext (f : Bool) (x : Nat × List Value × TypeId) (L : List (Nat × List Value × TypeId)) : List (Nat × List Value × TypeId) := if f = true then x :: L else L
/-- the beginning of a region in drawn order, the world a letter of which Φ is known -/
theorem region_A {P : Program} {ops : Array Oper} {Q : Exit → Act → World → Prop} {id : Nat} {a : Act} {w : World} (S : World → Prop) (L : List Nat) (n : Nat) (Φ : World → Prop) (hn : ops.size = n) (hm : P.follows .mixedOrders = true) (hΦ : Φ w.drew) (hS : ∀ w, Φ w → S w)
    (h : ∀ w, Φ w → Upto S L (Array.replicate n false) w → AnyS P .any ops Q S L n (Array.replicate n false) a w) : (Code.region id ops true).wp P Q a w :=
  region_S S L n hn hm (hS _ hΦ) fun hU => h _ hΦ hU
/-- a whole row read in an operation of a drawn region -/
theorem run_ld {b o T : Nat} {D : List Value} {d : TypeDesc} (hu : Tryd.prog.underlying T = some d) (hd : d.isRow = true) (hi : (Tryd.prog.info? T).map (·.size) = some D.length) (x : Operand) {a : Act} {op : Oper} (ho : op.op = .load T x) (hx : a.eval x = .pointer (some ⟨b, o, none⟩)) {w : World} (h : w.rangeAt b o D) :
    (execOp a.eval op).run Tryd.prog w = .ok (.value (.agg D.toArray)) w := by
  unfold execOp
  simp only [ho, hx, Instr.loadAt, Instr.sureAddr, Sem.run_bind, Sem.run_pure, Result.andThen_ok, run_loadVar_mid w b o T D d h hu hd hi]
theorem ownRow_keep {w w' : World} {B n sz : Nat} {E : TypeId} {v : Value} {xs : List Value} (h : w.ownsRow B E sz v n xs) (hb : Below w.heap.size w w') : w'.ownsRow B E sz v n xs := by
  have hg : w.grownBy w' none := ⟨hb.os, hb.tape, hb.output, hb.size, fun k hk _ => hb.block k hk⟩
  exact World.ownsRow.kept h hg (by by_cases e : v.ownBlock = none <;> simp [e])
theorem blk_own {w : World} {B b : Nat} {cs : List Value} {T : TypeId} (hB : B ≤ b) (h : Blk w b cs T) (n : Nat) (hn : n = cs.length) (hm : n ≤ 2000000) : w.ownsRow B T 1 (.slice (some ⟨b, 0, none⟩) n n) n cs := by
  subst hn
  refine ⟨by simp, .inr ⟨b, cs.length, cs.toArray, rfl, hB, h, ?_⟩⟩
  simp [maxLen]; omega
section
variable {B : Nat} {w0 w : World} {L : List (Nat × List Value × TypeId)} {G : List (Value × TypeId × List Value)}
/-- as Mm.appendRow, at a step of a region in drawn order -/
theorem Mm.stepRow {P : Program} {ops : Array Oper} {o : Oper} {a : Act} {K : Act → World → Prop} {Q : Exit → Act → World → Prop} {F : Prop} (hgd : o.guard = none) (s x : Operand) (t : TypeId)
    (ho : o.op = .call { callee := .builtin .append, args := #[s, x], argTypes := #[t, t] })
    (h : Mm B w0 w L G) (i : Nat) {v : Value} {E : TypeId} {xs : List Value} (hi : G[i]? = some (v, E, xs)) {i0 : TypeInfo} {z : Value} {bytes : Nat} (ht : P.underlying t = some (.slice E)) (hI : P.info? E = some i0) (hz : i0.zero = some z)
    (hsize : i0.size = 1) (hby : i0.bytes = bytes) (hzs : z.cells.size = 1) (hs : a.eval s = v) {u : Value} (hx : a.eval x = u) {B2 n : Nat} {news : List Value} (hn : n = news.length) (hu : w.ownsRow B2 E 1 u n news) (h1 : ∀ y ∈ news, y.oneCell' = true)
    (hlen : xs.length ≤ 1000000) (hlen2 : news.length ≤ 1000000) (hbytes : bytes ≤ 1000)
    (hk : ∀ v' w', Mm B w0 w' L (G.set i (v', E, xs ++ news)) → K (a.put o.dst v') w') :
    if Region.wanted o (yielded ops a.tmps) = true then Oper.wp P o a w K Q else F := by
  have hw : Region.wanted o (yielded ops a.tmps) = true := by simp [Region.wanted, hgd]
  rw [if_pos hw]
  subst hn
  have hov := h.own _ (mem_of_get hi)
  simp only at hov
  rcases id hu.2 with ⟨rfl, h0⟩ | ⟨g, cap, cur, rfl, -⟩
  · have hnil : news = [] := List.eq_nil_of_length_eq_zero (by omega)
    subst hnil
    have hrun := run_append_owned_none (P := P) (w := w) B t o.type E i0 1 ht hI v xs.length xs hov
    unfold Oper.wp
    simp [execOp, ho, resolve, invoke, builtin, hs, hx, hrun, Result.andThen]
    refine hk v w ?_
    rw [List.append_nil]
    have : G.set i (v, E, xs) = G := by
      apply List.ext_getElem?
      intro j
      rw [List.getElem?_set]
      split
      · rename_i e; subst e
        split
        · rw [hi]
        · rename_i hc; rw [List.getElem?_eq_none (by omega)]
      · rfl
    rw [this]; exact h
  · obtain ⟨v', w', hr, a1, a2, _, a4⟩ := run_append_own_at (P := P) w B t o.type E i0 z 1 bytes ht hI hz hsize hby hzs (by decide) v xs.length xs hov ⟨g, 0, none⟩ news.length cap news (by omega) (fun j y hj => World.ownsRow.cells hu (g := g) rfl j y hj) h1 (by unfold maxLen; omega)
      (by calc (xs.length + news.length) * bytes ≤ 2000000 * 1000 := Nat.mul_le_mul (by omega) hbytes
           _ ≤ _ := by omega) h.size
    unfold Oper.wp execOp
    simp only [ho, resolve, invoke, builtin, Sem.run_bind, Sem.run_pure, Result.andThen_ok, List.map_toArray, List.map_cons, List.map_nil, hs, hx, hr]
    exact hk v' w' (h.grow2 i hi rfl a1 a2 a4)
end

end Go.Proofs.YthgkkaifdlkciaaDoor

/- l01Split. -/
namespace Go.Proofs.YthgkkaifdlkciaaDoor
open Go.RowKit
set_option linter.unusedVariables false
set_option linter.unusedSimpArgs false

def stS (l : List ByteArray) : List Value := l.map Value.string
theorem stS_len (l : List ByteArray) : (stS l).length = l.length := by simp [stS]
theorem stS_snoc (l : List ByteArray) (s : ByteArray) : stS (l ++ [s]) = stS l ++ [.string s] := by simp [stS]
theorem infoStr : (Tryd.prog.info? 9).map (fun i => (i.zero, i.size, i.bytes)) = some (some (.string ByteArray.empty), 1, 16) := by kernel_rfl

set_option maxRecDepth 100000 in
set_option maxHeartbeats 1000000 in
theorem l01Split_any (s : ByteArray) (c : Nat) (hs : s.size ≤ 100000) (w : World) :
    Calls Tryd.prog 22 #[.string s, .int .u8 (c : Int)] w fun e w' => ∃ v, e = .returned v ∧ Mm w.heap.size w w' [] [(v, 9, stS (spB s c))] := by
  obtain ⟨i0, hi, hz0, hz1, hz2⟩ := info_parts infoStr
  have hM0 := (Mm.start w).newOwn #[] 9 0 rfl (by omega)
  have HM0 := Lib.hid hM0
  have HE : Hid (spB s c = (spS s c s.size).1 ++ [s.extract (spS s c s.size).2 s.size]) := rfl
  clear hM0
  go_enter Tryd.func22, Tryd.ntmps22
  go_wp2_with fail
  go_loopw [5, 6, 7] (fun o a i wr => ∃ (k b : Nat) (l : List ByteArray), k ≤ s.size ∧ i = .int .i64 (k : Int) ∧ a = .int .i64 (b : Int) ∧ Hid (spS s c k = (l, b)) ∧ Mm w.heap.size w wr [] [(o, 9, stS l)]) (fun _ _ i _ => s.size - (intOf i).toNat)
  case atStart => exact ⟨0, 0, [], Nat.zero_le _, rfl, rfl, rfl, HM0.out⟩
  case round =>
    clear HM0
    obtain ⟨k, b, l, hk, rfl, rfl, HS, hM⟩ := hrel
    have hbk : b ≤ k := by have := spS_le s c k; rw [HS.out] at this; exact this
    have hll : l.length ≤ k := by have := spS_len s c k; rw [HS.out] at this; exact this
    have ek : IntKind.i64.wrap ((k : Int) + 1) = (k : Int) + 1 := IntWalk.i64_in _ (by omega)
    have b0 : (0 : Int) ≤ (b : Int) := by omega
    by_cases hlt : k < s.size
    · have k0 : (0 : Int) ≤ (k : Int) := by omega
      have k1 : (k : Int) < (s.size : Int) := by omega
      have b1 : (b : Int) ≤ (k : Int) := by omega
      have hbe : s[k]! = s[k] := getElem!_pos s k hlt
      have HS2 : Hid (spS s c (k + 1) = if (s[k]).toNat = c then (l ++ [s.extract b k], k + 1) else (l, b)) := by
        show _ = _; rw [spS, HS.out, hbe]
      have hxl : (stS l).length ≤ 1000000 := by rw [stS_len]; omega
      clear hbe
      by_cases hc : (s[k]).toNat = c
      · have HS3 : Hid (spS s c (k + 1) = (l ++ [s.extract b k], k + 1)) := by show _ = _; rw [HS2.out, if_pos hc]
        have j1 : (((s[k]).toNat : Int) == (c : Int)) = true := by rw [hc]; simp
        clear HS2 hc HS
        go_wp2_with (at_builtin; refine Mm.append rfl (.tmp 20) (.tmp 25) 40 rfl hM 0 rfl Tryd.underlying40 hi hz0 hz1 hz2 rfl rfl rfl rfl hxl (by omega) ?_)
        intro g6 c6 w6 hM6
        (try simp only [List.set_cons_zero] at hM6)
        rw [← stS_snoc] at hM6
        have HM6 := Lib.hid hM6
        clear hM hM6
        go_wp2_with fail
        go_roundw
        case rel => exact ⟨k + 1, k + 1, _, by omega, by go_num, by go_num, HS3.out, HM6.out⟩
        case measure => simp [intOf] <;> omega
      · have HS3 : Hid (spS s c (k + 1) = (l, b)) := by show _ = _; rw [HS2.out, if_neg hc]
        have j1 : (((s[k]).toNat : Int) == (c : Int)) = false := by rw [beq_eq_false_iff_ne]; omega
        have HM := Lib.hid hM
        clear HS2 hc HS hM
        go_wp2_with fail
        go_roundw
        case rel => exact ⟨k + 1, b, l, by omega, by go_num, rfl, HS3.out, HM.out⟩
        case measure => simp [intOf] <;> omega
    · obtain rfl : k = s.size := by omega
      have k1 : ¬ ((s.size : Int) < (s.size : Int)) := by omega
      have hxl : (stS l).length ≤ 1000000 := by rw [stS_len]; omega
      have HE2 : Hid (spB s c = l ++ [s.extract b s.size]) := by show _ = _; rw [HE.out, HS.out]
      have b1 : (b : Int) ≤ (s.size : Int) := by omega
      go_wp2_with (at_builtin; refine Mm.append rfl (.tmp 29) (.tmp 33) 40 rfl hM 0 rfl Tryd.underlying40 hi hz0 hz1 hz2 rfl rfl rfl rfl hxl (by omega) ?_)
      intro g6 c6 w6 hM6
      (try simp only [List.set_cons_zero] at hM6)
      rw [← stS_snoc] at hM6
      have HM6 := Lib.hid hM6
      clear hM hM6
      go_wp2_with fail
      go_ret
      rw [HE2.out]
      exact ⟨_, rfl, HM6.out⟩
end Go.Proofs.YthgkkaifdlkciaaDoor

/- Tables: two slices of rows under one pointer, while they are built. -/
namespace Go.Proofs.YthgkkaifdlkciaaDoor
open Go.RowKit
set_option linter.unusedVariables false
set_option linter.unusedSimpArgs false

section
variable {B : Nat} {w w' : World} {T : Nat} {tN tO vN vO : Value} {rN rO : List Value} {N O : List (List Value)} {v5 v6 : Value} {x5 x6 : List Value}
end
section
variable {B : Nat} {w w' : World} {T t g cap n : Nat} {tN tO vN vO v u : Value} {rN rO : List Value} {N O : List (List Value)} {v5 v6 : Value} {x5 x6 : List Value}
end
end Go.Proofs.YthgkkaifdlkciaaDoor

/- What the laws ask of a result that is a slice of numbers. -/
namespace Go.Proofs.YthgkkaifdlkciaaDoor
open Go.RowKit
set_option linter.unusedVariables false
set_option linter.unusedSimpArgs false

end Go.Proofs.YthgkkaifdlkciaaDoor

/- codeOf, lead. -/
namespace Go.Proofs.YthgkkaifdlkciaaDoor
open Go.RowKit
set_option linter.unusedVariables false
set_option linter.unusedSimpArgs false

end Go.Proofs.YthgkkaifdlkciaaDoor

/- lead: what a state makes of a word, and its section there. -/
namespace Go.Proofs.YthgkkaifdlkciaaDoor
open Go.RowKit
set_option linter.unusedVariables false
set_option linter.unusedSimpArgs false

end Go.Proofs.YthgkkaifdlkciaaDoor

/- Powers, words of a level, their numbers: contracts of both sides. -/
namespace Go.Proofs.YthgkkaifdlkciaaDoor
open Go.RowKit
set_option linter.unusedVariables false
set_option linter.unusedSimpArgs false

/-! words -/
end Go.Proofs.YthgkkaifdlkciaaDoor

/- What the laws ask of a result that is a slice of strings (at most eight of them). -/
namespace Go.Proofs.YthgkkaifdlkciaaDoor
open Go.RowKit
set_option linter.unusedVariables false
set_option linter.unusedSimpArgs false

def stv (xs : List ByteArray) : List Value := xs.map Value.string
/-- v is a slice of the strings xs, in memory from B on that is its own -/
def OwnS (w : World) (B : Nat) (v : Value) (xs : List ByteArray) : Prop := w.ownsRow B 9 1 v xs.length (stv xs)
theorem OwnS.below {w w' : World} {B : Nat} {v : Value} {xs : List ByteArray} (h : OwnS w B v xs) (hb : Below w.heap.size w w') : OwnS w' B v xs := by
  have hg : w.grownBy w' none := ⟨hb.os, hb.tape, hb.output, hb.size, fun k hk _ => hb.block k hk⟩
  exact World.ownsRow.kept h hg (by by_cases e : v.ownBlock = none <;> simp [e])
theorem OwnS.less {w : World} {B C : Nat} {v : Value} {xs : List ByteArray} (h : OwnS w B v xs) (hC : C ≤ B) : OwnS w C v xs := by
  refine ⟨h.1, ?_⟩
  rcases h.2 with hn | ⟨g, cap, cur, hv, h1, rest⟩
  · exact .inl hn
  · exact .inr ⟨g, cap, cur, hv, by omega, rest⟩
theorem OwnS.nil (w : World) (B : Nat) : OwnS w B (.slice none 0 0) [] := World.ownsRow_nil _ _ _ _

end Go.Proofs.YthgkkaifdlkciaaDoor

/- KnownRelations of the reference. -/
namespace Go.Proofs.YthgkkaifdlkciaaDoor
open Go.RowKit
set_option linter.unusedVariables false
set_option linter.unusedSimpArgs false
/-- the known machines' names -/
def kn : Nat → List UInt8
  | 0 => [97, 100, 100, 105, 110, 103]
  | 1 => [97, 100, 100, 105, 110, 103, 51]
  | 2 => [97, 108, 101, 115, 104, 105, 110]
  | 3 => [98, 97, 115, 105, 108, 105, 99, 97]
  | 4 => [103, 114, 105, 103, 111, 114, 99, 104, 117, 107]
  | 5 => [103, 117, 112, 116, 97]
  | 6 => [104, 97, 110, 111, 105]
  | _ => [108, 97, 109, 112, 108, 105, 103, 104, 116, 101, 114]
/-- their relations -/
def kr : Nat → List ByteArray
  | 4 => [ByteArray.mk #[98, 98], ByteArray.mk #[99, 99], ByteArray.mk #[100, 100], ByteArray.mk #[101, 101], ByteArray.mk #[99, 100, 101], ByteArray.mk #[98, 101, 98, 101, 98, 101, 98, 101]]
  | 5 => [ByteArray.mk #[98, 98, 98], ByteArray.mk #[99, 99, 99], ByteArray.mk #[98, 100]]
  | 6 => [ByteArray.mk #[98, 98], ByteArray.mk #[99, 99], ByteArray.mk #[100, 100]]
  | 7 => [ByteArray.mk #[65, 98, 65, 98], ByteArray.mk #[66, 97, 65, 66, 97, 97, 65, 98, 65, 65, 98, 97]]
  | _ => []
/-- the number of the name, 8 or more if it is none -/
def kno (s : ByteArray) : Nat := (List.range 8).findIdx fun i => s.toList == kn i
theorem kno_of {s : ByteArray} {i : Nat} (hi : i < 8) (h : (s.toList == kn i) = true) : kno s = i := by
  have e : s.toList = kn i := by simpa using h
  rw [kno, e]
  have : ∀ i : Fin 8, (List.range 8).findIdx (fun j => kn i == kn j) = i := by decide
  exact this ⟨i, hi⟩
theorem kno_none {s : ByteArray} (h : ∀ i, i < 8 → (s.toList == kn i) = false) : kno s = 8 := by
  have : (List.range 8).findIdx (fun i => s.toList == kn i) = (List.range 8).length := by
    rw [List.findIdx_eq_length]
    intro x hx
    rw [h x (by simpa using hx)]
  simpa [kno] using this
theorem OwnS.made (w : World) (xs : List ByteArray) (hx : xs.length ≤ 100) : OwnS (w.alloc (.cells (stv xs).toArray 9)) w.heap.size (.slice (some ⟨w.heap.size, 0, none⟩) xs.length xs.length) xs :=
  ⟨by simp [stv], .inr ⟨w.heap.size, xs.length, (stv xs).toArray, rfl, Nat.le_refl _, heap_alloc_new w _, Nat.le_refl _, by simp [maxLen]; omega, by simp [stv], by simp [stv, List.take_of_length_le]⟩⟩
end Go.Proofs.YthgkkaifdlkciaaDoor

/- The first place at which something holds: no program in sight. -/
namespace Go.Proofs.YthgkkaifdlkciaaDoor
set_option linter.unusedVariables false
set_option linter.unusedSimpArgs false

/-- the first number below n that p lets in, or -1 -/
def idxN (p : Nat → Bool) (n : Nat) : Int := match (List.range n).find? p with | some i => (i : Int) | none => -1
theorem idxN_hit {p : Nat → Bool} {n k : Nat} (hk : k < n) (h1 : p k = true) (h2 : ∀ j, j < k → p j = false) : idxN p n = k := by
  have : (List.range n).find? p = some k := by
    rw [List.find?_range_eq_some]
    exact ⟨h1, by simpa using hk, fun j hj => by rw [h2 j hj]; rfl⟩
  rw [idxN, this]
theorem idxN_none {p : Nat → Bool} {n : Nat} (h : ∀ j, j < n → p j = false) : idxN p n = -1 := by
  have : (List.range n).find? p = none := by
    rw [List.find?_eq_none]
    intro x hx
    rw [h x (by simpa using hx)]; decide
  rw [idxN, this]
end Go.Proofs.YthgkkaifdlkciaaDoor

/- KnownRelations of the program. -/
namespace Go.Proofs.YthgkkaifdlkciaaDoor
open Go.RowKit
set_option linter.unusedVariables false
set_option linter.unusedSimpArgs false
/-- their texts -/
def kt : Nat → ByteArray
  | 0 => ByteArray.mk #[50, 58, 48, 97, 49, 97, 44, 49, 97, 48, 98]
  | 1 => ByteArray.mk #[51, 58, 48, 97, 49, 97, 50, 97, 44, 49, 97, 50, 97, 48, 98]
  | 2 => ByteArray.mk #[50, 58, 49, 99, 48, 98, 44, 49, 98, 48, 99, 44, 48, 97, 49, 97]
  | 3 => ByteArray.mk #[50, 58, 48, 97, 49, 97, 44, 48, 97, 49, 99, 44, 49, 97, 48, 98]
  | 4 => ByteArray.mk #[50, 58, 48, 97, 49, 97, 44, 49, 97, 48, 97, 44, 48, 98, 49, 100, 44, 48, 98, 49, 101, 44, 48, 97, 49, 99]
  | 5 => ByteArray.mk #[51, 58, 48, 97, 49, 97, 50, 97, 44, 49, 97, 50, 97, 48, 97, 44, 48, 98, 49, 99, 50, 100, 44, 50, 97, 48, 97, 49, 97]
  | 6 => ByteArray.mk #[51, 58, 48, 97, 49, 97, 50, 97, 44, 49, 97, 48, 97, 50, 98, 44, 50, 97, 49, 99, 48, 97, 44, 48, 100, 50, 97, 49, 97]
  | _ => ByteArray.mk #[50, 58, 48, 97, 49, 98, 44, 49, 97, 48, 98]
/-- the slice of its relations, made from block n on -/
def ks (n : Nat) : Nat → Value
  | 4 => .slice (some ⟨n, 0, none⟩) 6 6
  | 5 => .slice (some ⟨n + 1, 0, none⟩) 3 3
  | 6 => .slice (some ⟨n + 1 + 1, 0, none⟩) 3 3
  | 7 => .slice (some ⟨n + 1 + 1 + 1, 0, none⟩) 2 2
  | _ => .slice none 0 0
def kRow (n i : Nat) : List Value := [.string ⟨(kn i).toArray⟩, .string (kt i), ks n i]

def kCells (n : Nat) : List Value := kRow n 0 ++ (kRow n 1 ++ (kRow n 2 ++ (kRow n 3 ++ (kRow n 4 ++ (kRow n 5 ++ (kRow n 6 ++ kRow n 7))))))
def kW4 (w : World) : World := (((w.alloc (.cells (stv (kr 4)).toArray 9)).alloc (.cells (stv (kr 5)).toArray 9)).alloc (.cells (stv (kr 6)).toArray 9)).alloc (.cells (stv (kr 7)).toArray 9)
def kW (w : World) : World := (kW4 w).alloc (.cells (kCells w.heap.size).toArray 42)
theorem below1 (w : World) (o : Obj) : Below w.heap.size w (w.alloc o) := (Below.refl _ _).alloc (Nat.le_refl _) o
theorem OwnS.at {w : World} {n B : Nat} (hn : w.heap.size = n) (hB : B ≤ n) (xs : List ByteArray) (hx : xs.length ≤ 100) : OwnS (w.alloc (.cells (stv xs).toArray 9)) B (.slice (some ⟨n, 0, none⟩) xs.length xs.length) xs := by
  subst hn; exact (OwnS.made w xs hx).less hB
theorem kW4_size (w : World) : (kW4 w).heap.size = w.heap.size + 1 + 1 + 1 + 1 := by simp [kW4]
theorem kW4_below (w : World) : Below w.heap.size w (kW4 w) := by
  refine ((((Below.refl _ _).alloc (Nat.le_refl _) _).alloc ?_ _).alloc ?_ _).alloc ?_ _ <;> simp <;> omega
theorem known_post (w : World) : ∃ g, Ending.returned (.slice (some ⟨w.heap.size + 1 + 1 + 1 + 1, 0, none⟩) 8 8) = .returned (.slice (some ⟨g, 0, none⟩) 8 8) ∧ Below w.heap.size w (kW w) ∧ w.heap.size ≤ g ∧ g < (kW w).heap.size ∧ (∀ i, i < 8 → (kW w).rangeAt g (i * 3) (kRow w.heap.size i)) ∧ ∀ i, i < 8 → OwnS (kW w) w.heap.size (ks w.heap.size i) (kr i) := by
  have hsz := kW4_size w
  refine ⟨w.heap.size + 1 + 1 + 1 + 1, rfl, (kW4_below w).alloc (kW4_below w).size _, by omega, by rw [kW, World.size_alloc, hsz]; omega, fun i hi => ?_, fun i hi => ?_⟩
  · have hB := Blk.new (kW4 w) (kCells w.heap.size).toArray 42
    rw [hsz] at hB
    refine hB.range (i * 3) _ (fun j v hj => ?_)
    have hj3 : j < 3 := (List.getElem?_eq_some_iff.1 hj).1
    rcases (by omega : i = 0 ∨ i = 1 ∨ i = 2 ∨ i = 3 ∨ i = 4 ∨ i = 5 ∨ i = 6 ∨ i = 7) with rfl | rfl | rfl | rfl | rfl | rfl | rfl | rfl <;>
      rcases (by omega : j = 0 ∨ j = 1 ∨ j = 2) with rfl | rfl | rfl <;> exact hj
  · have h4 := OwnS.at (w := w) rfl (Nat.le_refl _) (kr 4) (by decide)
    have h5 := OwnS.at (w := (w.alloc (.cells (stv (kr 4)).toArray 9))) (n := w.heap.size + 1) (B := w.heap.size) (by simp) (by omega) (kr 5) (by decide)
    have h6 := OwnS.at (w := ((w.alloc (.cells (stv (kr 4)).toArray 9)).alloc (.cells (stv (kr 5)).toArray 9))) (n := w.heap.size + 1 + 1) (B := w.heap.size) (by simp) (by omega) (kr 6) (by decide)
    have h7 := OwnS.at (w := (((w.alloc (.cells (stv (kr 4)).toArray 9)).alloc (.cells (stv (kr 5)).toArray 9)).alloc (.cells (stv (kr 6)).toArray 9))) (n := w.heap.size + 1 + 1 + 1) (B := w.heap.size) (by simp) (by omega) (kr 7) (by decide)
    rcases (by omega : i = 0 ∨ i = 1 ∨ i = 2 ∨ i = 3 ∨ i = 4 ∨ i = 5 ∨ i = 6 ∨ i = 7) with rfl | rfl | rfl | rfl | rfl | rfl | rfl | rfl
    · exact OwnS.nil _ _
    · exact OwnS.nil _ _
    · exact OwnS.nil _ _
    · exact OwnS.nil _ _
    · exact (((h4.below (below1 _ _)).below (below1 _ _)).below (below1 _ _)).below (below1 _ _)
    · exact ((h5.below (below1 _ _)).below (below1 _ _)).below (below1 _ _)
    · exact (h6.below (below1 _ _)).below (below1 _ _)
    · exact h7.below (below1 _ _)

set_option maxRecDepth 100000 in
set_option maxHeartbeats 4000000 in
theorem knownOnes_any (w : World) : Calls Tryd.prog 24 #[] w fun e w' => ∃ g, e = .returned (.slice (some ⟨g, 0, none⟩) 8 8) ∧ Below w.heap.size w w' ∧ w.heap.size ≤ g ∧ g < w'.heap.size ∧ (∀ i, i < 8 → w'.rangeAt g (i * 3) (kRow w.heap.size i)) ∧ ∀ i, i < 8 → OwnS w' w.heap.size (ks w.heap.size i) (kr i) := by
  go_enter Tryd.func24, Tryd.ntmps24
  go_wp2_with fail
  go_ret
  exact known_post w

theorem enters_find1 : Enters 26 := fun args w => by kernel_rfl
set_option maxRecDepth 100000 in
set_option maxHeartbeats 1000000 in
theorem find1_any (n i p1 : Nat) (s : ByteArray) (w : World) (h1 : w.cell? ⟨p1, 0, none⟩ = some (.string s)) :
    Calls Tryd.prog 26 #[.agg (kRow n i).toArray, .pointer (some ⟨p1, 0, none⟩)] w (Ret (.bool (kn i == s.toList)) w) := by
  have hlt : p1 < w.heap.size := World.block_lt_of_cell? w _ h1
  obtain ⟨L, hL⟩ : ∃ L, L = kn i := ⟨_, rfl⟩
  rw [kRow, ← hL]
  generalize kt i = u at *
  generalize ks n i = v at *
  clear hL
  have h2 : (w.alloc (.cells #[.string ⟨L.toArray⟩, .string u, v] 42)).cell? ⟨p1, 0, none⟩ = some (.string s) := (World.cell?_of_block (w := w) (a := ⟨p1, 0, none⟩) (Below.heap_alloc _ _ _ hlt)).trans h1
  go_enter Tryd.func26, Tryd.ntmps26
  go_wp2_with fail
  go_ret
  exact ⟨rfl, below1 _ _⟩

set_option maxRecDepth 100000 in
set_option maxHeartbeats 1000000 in
theorem indexFuncK_any (k : Nat) (hent : Enters k) (cap : Array Value) (g n c : Nat) (hn : n ≤ 1000000) (rv : Nat → List Value) (hl : ∀ i, (rv i).length = 3) (p : Nat → Bool) (w : World)
    (hc : ∀ i, i < n → w.rangeAt g (i * 3) (rv i)) (hf : ∀ W, Below w.heap.size w W → ∀ i, i < n → Calls Tryd.prog k (#[.agg (rv i).toArray] ++ cap) W (Ret (.bool (p i)) W)) :
    Calls Tryd.prog 25 #[.slice (some ⟨g, 0, none⟩) n c, .func (.func k) #[] cap] w (Ret (.int .i64 (idxN p n)) w) := by
  have hent' : ∀ args w, Sem.run Tryd.prog (callFunc k args) w = .ok (.enter k args) w := hent
  have HC := Lib.hid hc
  have HF := Lib.hid hf
  have HI := Lib.hid (fun i => (show (Tryd.prog.info? 42).map (·.size) = some (rv i).length by rw [hl i]; kernel_rfl))
  clear hc hf hent
  go_enter Tryd.func25, Tryd.ntmps25
  go_wp2_with fail
  go_loopw [8] (fun i wr => ∃ j : Nat, j ≤ n ∧ i = .int .i64 j ∧ Below w.heap.size w wr ∧ Hid (∀ i, i < j → p i = false)) (fun i _ => n - (intOf i).toNat)
  case atStart => exact ⟨0, Nat.zero_le _, rfl, Below.refl _ _, fun i hi => by omega⟩
  case round =>
    obtain ⟨j, hj, rfl, hb, HN⟩ := hrel
    by_cases hlt : j < n
    · have hr : wr.rangeAt g (j * 3) (rv j) := fun i v hi => by
        have h := HC.out j hlt i v hi
        exact (hb.cell (p := ⟨g, j * 3 + i, none⟩) (World.block_lt_of_cell? w _ h)).trans h
      have hi := HI.out j
      have i1 : (j : Int) < (n : Int) := by omega
      have i2 : (0 : Int) ≤ (j : Int) := by omega
      have hcall : Hid (Calls Tryd.prog k (#[.agg (rv j).toArray] ++ cap) wr (Ret (.bool (p j)) wr)) := HF.out wr hb j hlt
      generalize rv j = v at *
      have HI1 := Lib.hid hi
      clear hi
      go_wp2_with ((with_reducible refine ld_row ?_ 42 (.tmp 14) ?_ g (j * 3) ?_ v (.struct _) hr Tryd.underlying42 ?_ HI1.out ?_); exact rfl; exact rfl; exact rfl; exact rfl)
      refine hcall.out.mono ?_
      rintro e w1 ⟨rfl, hb1⟩
      have hbb := hb.trans (hb1.mono hb.size)
      clear hcall hr
      cases hp : p j
      · have HJ : Hid (∀ i, i < j + 1 → p i = false) := fun i hi => by
          by_cases e : i = j
          · subst e; exact hp
          · exact HN.out i (by omega)
        clear hp
        go_wp2_with fail
        go_roundw
        case rel => exact ⟨j + 1, by omega, by go_num, hbb, HJ⟩
        case measure => simp [intOf] <;> omega
      · have HJ := Lib.hid (idxN_hit hlt hp HN.out)
        clear hp
        go_wp2_with fail
        go_ret
        exact ⟨ret_int HJ.out.symm, hbb⟩
    · have HJ := Lib.hid (idxN_none (p := p) (n := n) (fun i hi => HN.out i (by omega)))
      have hj' : ¬ (j : Int) < n := by omega
      go_wp2_with fail
      go_ret
      exact ⟨ret_int HJ.out.symm, hb⟩
end Go.Proofs.YthgkkaifdlkciaaDoor

/- find, and KnownRelations of the program. -/
namespace Go.Proofs.YthgkkaifdlkciaaDoor
open Go.RowKit
set_option linter.unusedVariables false
set_option linter.unusedSimpArgs false
theorem results_cell_tmp {P : Program} {fn : Func} {p q : Tmp} {ty : TypeId} (h : fn.results = #[.cell p ty, .tmp q]) (tmps : Array Value) (w : World) (g : Nat) (t : TypeId) (cs : Array Value) (fr : Nat × Nat) (d : TypeDesc)
    (hp : tmps.getD p undef = .pointer (some ⟨g, 0, none⟩)) (hg : w.heap[g]? = some (.cells cs t fr))
    (hu : P.underlying ty = some d) (hd : (match d with | .struct _ | .array _ _ => true | _ => false) = true) (hi : (P.info? ty).map (·.size) = some cs.size) :
    (results fn tmps).run P w = .ok (.tuple #[.agg cs, tmps.getD q undef]) w := by
  have hp' : tmps[p]?.getD undef = .pointer (some ⟨g, 0, none⟩) := by simpa using hp
  simp [results, h, hp', asAddr, run_loadVar_row w g t ty cs fr d hg hu hd hi]
theorem idx_kno {s : ByteArray} (h : kno s < 8) : idxN (fun i => kn i == s.toList) 8 = (kno s : Int) := by
  have h' : (s.toList == kn (kno s)) = true := by
    have := List.findIdx_getElem (p := fun i => s.toList == kn i) (xs := List.range 8) (w := by simpa [kno] using h)
    simpa [kno] using this
  have e : s.toList = kn (kno s) := by simpa using h'
  refine idxN_hit h (by simp [e]) (fun j hj => ?_)
  cases hh : kn j == s.toList
  · rfl
  · exact absurd (kno_of (s := s) (i := j) (by omega) (by simpa using (by simpa using hh : kn j = s.toList).symm)) (by omega)
theorem idx_none {s : ByteArray} (h : ¬ kno s < 8) : idxN (fun i => kn i == s.toList) 8 = -1 := by
  refine idxN_none (fun j hj => ?_)
  cases hh : kn j == s.toList
  · rfl
  · exact absurd (kno_of (s := s) (i := j) hj (by simpa using (by simpa using hh : kn j = s.toList).symm)) (by omega)

theorem OwnS.setOld {w : World} {C : Nat} {v : Value} {xs : List ByteArray} (h : OwnS w C v xs) {b : Nat} (hb : b < C) (i : Nat) (u : Value) : OwnS (w.setCell ⟨b, i, none⟩ u) C v xs := by
  refine ⟨h.1, ?_⟩
  rcases h.2 with hn | ⟨g, cap, cur, hv, h1, h2, rest⟩
  · exact .inl hn
  · exact .inr ⟨g, cap, cur, hv, h1, (heap_setCell_other w ⟨b, i, none⟩ g u (by show g ≠ b; omega)).trans h2, rest⟩

set_option maxRecDepth 100000 in
set_option maxHeartbeats 4000000 in
theorem find_any (s : ByteArray) (w : World) : Calls Tryd.prog 15 #[.string s] w fun e w' => ∃ x y a l c, e = .returned (.tuple #[.agg #[.string x, .string y, .slice a l c], .bool (decide (kno s < 8))]) ∧ Below w.heap.size w w' ∧ (kno s < 8 → y = kt (kno s) ∧ OwnS w' w.heap.size (.slice a l c) (kr (kno s))) := by
  go_enter Tryd.func15, Tryd.ntmps15
  go_wp2_with fail
  have hs0 : ((w.alloc (.cells #[.string s] 9)).alloc (.cells #[.string ⟨#[]⟩, .string ⟨#[]⟩, .slice none 0 0] 42)).cell? ⟨w.heap.size, 0, none⟩ = some (.string s) :=
    (World.cell?_of_block (a := ⟨w.heap.size, 0, none⟩) (Below.heap_alloc _ _ _ (by simp))).trans ((Blk.new w #[.string s] 9).cell' (i := 0) rfl)
  have hZ0 : Blk ((w.alloc (.cells #[.string s] 9)).alloc (.cells #[.string ⟨#[]⟩, .string ⟨#[]⟩, .slice none 0 0] 42)) (w.heap.size + 1) [.string ⟨#[]⟩, .string ⟨#[]⟩, .slice none 0 0] 42 := by
    have := Blk.new (w.alloc (.cells #[.string s] 9)) #[.string ⟨#[]⟩, .string ⟨#[]⟩, .slice none 0 0] 42
    rwa [World.size_alloc] at this
  have hb0 : Below w.heap.size w ((w.alloc (.cells #[.string s] 9)).alloc (.cells #[.string ⟨#[]⟩, .string ⟨#[]⟩, .slice none 0 0] 42)) := ((Below.refl _ _).alloc (Nat.le_refl _) _).alloc (by simp) _
  refine (knownOnes_any _).mono ?_
  generalize ((w.alloc (.cells #[.string s] 9)).alloc (.cells #[.string ⟨#[]⟩, .string ⟨#[]⟩, .slice none 0 0] 42)) = w0 at *
  rintro e w1 ⟨g, rfl, hb1, hg, hg1, hR, hO⟩
  have hs1 := (hb1.cell (p := ⟨w.heap.size, 0, none⟩) (World.block_lt_of_cell? _ _ hs0)).trans hs0
  have hZ1 := hZ0.keep hb1
  have hbb1 := hb0.trans (hb1.mono hb0.size)
  have HR := Lib.hid hR
  have HO := Lib.hid hO
  have HF : Hid (Calls Tryd.prog 25 #[.slice (some ⟨g, 0, none⟩) 8 8, .func (.func 26) #[] #[.pointer (some ⟨w.heap.size, 0, none⟩)]] w1 (Ret (.int .i64 (idxN (fun i => kn i == s.toList) 8)) w1)) :=
    indexFuncK_any 26 enters_find1 #[.pointer (some ⟨w.heap.size, 0, none⟩)] g 8 8 (by omega) (kRow w0.heap.size) (fun i => rfl) (fun i => kn i == s.toList) w1 hR
      (fun W hW i hi => find1_any w0.heap.size i w.heap.size s W ((hW.cell (p := ⟨w.heap.size, 0, none⟩) (World.block_lt_of_cell? _ _ hs1)).trans hs1))
  have hgn : w.heap.size ≤ w0.heap.size := hb0.size
  have HGN : Hid (w.heap.size + 1 < w0.heap.size) := hZ0.lt
  clear hR hO hs0 hZ0 hs1
  go_wp2_with fail
  refine HF.out.mono ?_
  rintro e w2 ⟨rfl, hb2⟩
  have hZ2 := hZ1.keep hb2
  have hbb2 := hbb1.trans (hb2.mono hbb1.size)
  clear HF
  by_cases hk : kno s < 8
  · rw [idx_kno hk]
    obtain ⟨q, hq⟩ : ∃ q, q = kno s := ⟨_, rfl⟩
    rw [← hq] at hk ⊢
    have hr := HR.out q hk
    have hr2 : w2.rangeAt g (q * 3) (kRow w0.heap.size q) := fun i v hi => by
      have h := hr i v hi
      exact (hb2.cell (p := ⟨g, q * 3 + i, none⟩) (World.block_lt_of_cell? w1 _ h)).trans h
    have HOq := Lib.hid ((HO.out q hk).below hb2)
    obtain ⟨a, l, c, hsl⟩ : ∃ a l c, ks w0.heap.size q = .slice a l c := by unfold ks; split <;> exact ⟨_, _, _, rfl⟩
    have i1 : ¬ (q : Int) < 0 := by omega
    have i2 : (0 : Int) ≤ (q : Int) := by omega
    have i3 : (q : Int) < 8 := by omega
    rw [kRow, hsl] at hr2
    have HQ := Lib.hid hq
    obtain ⟨X, hX⟩ : ∃ X, X = (⟨(kn q).toArray⟩ : ByteArray) := ⟨_, rfl⟩
    obtain ⟨Y, hY⟩ : ∃ Y, Y = kt q := ⟨_, rfl⟩
    rw [← hX, ← hY] at hr2
    have f0 : w2.cell? ⟨g, q * 3, none⟩ = some (.string X) := hr2 0 _ rfl
    have f1 : w2.cell? ⟨g, q * 3 + 1, none⟩ = some (.string Y) := hr2 1 _ rfl
    have f2 : w2.cell? ⟨g, q * 3 + 2, none⟩ = some (.slice a l c) := hr2 2 _ rfl
    have z0 := hZ2.cell' (i := 0) rfl
    have z1 := hZ2.cell' (i := 1) rfl
    have z2 := hZ2.cell' (i := 2) rfl
    have y0 := hZ2.free 0
    have y1 := hZ2.free 1
    have y2 := hZ2.free 2
    have HZ := Lib.hid hZ2
    rw [hsl] at HOq
    have HBB := Lib.hid hbb2
    have HYQ := Lib.hid hY
    clear hX hY hsl hq hr HO HR hr2 hZ1 hZ2
    go_wp2_with fail
    have hfin := ((HZ.out.setCell 0 (Value.string X)).setCell 1 (Value.string Y)).setCell 2 (Value.slice a l c)
    have hbe := ((HBB.out.setCell (p := ⟨w.heap.size + 1, 0, none⟩) (by simp) (Value.string X)).setCell (p := ⟨w.heap.size + 1, 1, none⟩) (by simp) (Value.string Y)).setCell (p := ⟨w.heap.size + 1, 2, none⟩) (by simp) (Value.slice a l c)
    refine bodyPost_ret (v := .tuple #[.agg #[Value.string X, Value.string Y, Value.slice a l c], .bool true]) (results_cell_tmp Tryd.results15 _ _ (w.heap.size + 1) 42 #[Value.string X, Value.string Y, Value.slice a l c] (0, 0) (.struct _) rfl hfin Tryd.underlying42 rfl (by kernel_rfl)) rfl ?_
    refine ⟨X, Y, a, l, c, by rw [← HQ.out, decide_eq_true hk], hbe, fun _ => ?_⟩
    rw [← HQ.out]
    exact ⟨HYQ.out, (((HOq.out.setOld HGN.out 0 _).setOld HGN.out 1 _).setOld HGN.out 2 _).less hgn⟩
  · rw [idx_none hk]
    have HK := Lib.hid hk
    have z0 := hZ2.cell' (i := 0) rfl
    have z1 := hZ2.cell' (i := 1) rfl
    have z2 := hZ2.cell' (i := 2) rfl
    have y0 := hZ2.free 0
    have y1 := hZ2.free 1
    have y2 := hZ2.free 2
    have HZ := Lib.hid hZ2
    have HBB := Lib.hid hbb2
    clear hk HO HR hZ1 hZ2
    go_wp2_with fail
    have hfin := ((HZ.out.setCell 0 (Value.string ⟨#[]⟩)).setCell 1 (Value.string ⟨#[]⟩)).setCell 2 (Value.slice none 0 0)
    have hbe := ((HBB.out.setCell (p := ⟨w.heap.size + 1, 0, none⟩) (by simp) (Value.string ⟨#[]⟩)).setCell (p := ⟨w.heap.size + 1, 1, none⟩) (by simp) (Value.string ⟨#[]⟩)).setCell (p := ⟨w.heap.size + 1, 2, none⟩) (by simp) (Value.slice none 0 0)
    refine bodyPost_ret (v := .tuple #[.agg #[Value.string ⟨#[]⟩, Value.string ⟨#[]⟩, Value.slice none 0 0], .bool false]) (results_cell_tmp Tryd.results15 _ _ (w.heap.size + 1) 42 #[Value.string ⟨#[]⟩, Value.string ⟨#[]⟩, Value.slice none 0 0] (0, 0) (.struct _) rfl hfin Tryd.underlying42 rfl (by kernel_rfl)) rfl ?_
    exact ⟨_, _, _, _, _, by rw [decide_eq_false HK.out], hbe, fun h => absurd h HK.out⟩

end Go.Proofs.YthgkkaifdlkciaaDoor

/- l01Read. -/
namespace Go.Proofs.YthgkkaifdlkciaaDoor
open Go.RowKit
set_option linter.unusedVariables false
set_option linter.unusedSimpArgs false

theorem zeroM_set (m : Mch) : ((Tryd.zeroCells25.setIfInBounds 0 (.int .i64 m.L)).setIfInBounds 1 (.int .i64 m.S)) = (rdM m 0 0 0).cells.toArray := by
  apply Array.toList_inj.1
  rw [zero98, rdM_none]; rfl
/-- a cell of a slice of one's own -/
theorem Mm.readV {B : Nat} {w0 w : World} {L : List (Nat × List Value × TypeId)} {G : List (Value × TypeId × List Value)} (h : Mm B w0 w L G) (i : Nat) {v : Value} {E : TypeId} {xs : List Value} (hi : G[i]? = some (v, E, xs)) (h0 : 0 < xs.length) :
    ∃ g c, v = .slice (some ⟨g, 0, none⟩) xs.length c ∧ ∀ k u, xs[k]? = some u → w.cell? ⟨g, k, none⟩ = some u := by
  have ho := h.own _ (mem_of_get hi)
  simp only at ho
  rcases id ho.2 with ⟨e, hn⟩ | ⟨g, cap, cur, e, -⟩
  · omega
  · refine ⟨g, cap, e, fun k u hk => ?_⟩
    have := World.ownsRow.cells ho (g := g) (by rw [e]; rfl) k _ hk
    rwa [show (⟨g, 0, none⟩ : Addr).add k = ⟨g, k, none⟩ by unfold Addr.add; split <;> simp_all] at this

set_option maxRecDepth 100000 in
set_option maxHeartbeats 2000000 in
theorem l01Read_any (m : Mch) (t : ByteArray) (ht : TextOf m t) (w : World) :
    Calls Tryd.prog 13 #[.string t] w (Ret (.tuple #[.agg m.cells.toArray, .bool true]) w) := by
  have hok := mach_ok ht.mach
  have hwf := ht.wf
  have hs16 := hok.s_le
  have hs1 := hok.s_pos
  have hl2 := hok.l_ge
  have hl3 := hok.l_le
  have HMX := Lib.hid (show Tryd.prog.follows .mixedOrders = true by kernel_rfl)
  have hsz := ht.size
  have h2 : 2 < t.size + 1 := by omega
  have a0' : (t[0]'(by omega)).toNat = 48 + m.l := by rw [← ht.at0, getElem!_pos t 0 (by omega)]
  have a1 : (t[1]'(by omega)).toNat = 58 := by rw [← ht.at1, getElem!_pos t 1 (by omega)]
  have HX := Lib.hid ht.ext
  have HRL : Hid ((rsB m).size ≤ 100000) := by
    show _ ≤ _
    rw [← ht.ext, ByteArray.size_extract]; omega
  have HSP := Lib.hid (l01Split_any (rsB m) 44 HRL.out)
  have HS2 := Lib.hid ht.spl2
  have HIS := Lib.hid (l01Is_any m hwf)
  have HMT := Lib.hid ht.mach
  have HRA := Lib.hid (rdM_all hwf ht.mach)
  have hM0 := (Mm.start w).alloc Tryd.zeroCells25 25
  have HM0 := Lib.hid hM0
  clear hM0 ht
  have hl23 : m.l = 2 ∨ m.l = 3 := by omega
  have HLE := Lib.hid hok.L_eq
  rcases hl23 with hml | hml
  all_goals
    first | (have a0 : (t[0]'(by omega)).toNat = 50 := by omega) | (have a0 : (t[0]'(by omega)).toNat = 51 := by omega)
    have HML := Lib.hid hml
    clear hml a0'
    go_enter Tryd.func13, Tryd.ntmps13
    go_wp2_with fail
    rw [HX.out]
    refine (HSP.out _).mono ?_
    rintro e w2 ⟨v, rfl, hM'⟩
    rw [HS2.out] at hM'
    have hM1 := HM0.out.callOwn hM'.below (hM'.own _ (List.mem_cons_self ..)) rfl
    have hrl : (stS (rowsB m)).length = m.s := by simp [stS, rowsB]
    obtain ⟨gv, cv, rfl, hcv⟩ := hM1.readV 0 (v := v) (E := 9) (xs := stS (rowsB m)) rfl (by rw [hrl]; omega)
    rw [hrl] at hM1 ⊢
    have HCV : Hid (∀ q, q < m.s → w2.cell? ⟨gv, q, none⟩ = some (.string (rowB m q))) := fun q hq => hcv q _ (by simp [stS, rowsB, hq])
    have hM2 := hM1.alloc Tryd.zeroCells25 25
    have hw0 := rdM_wf hok hwf (q := 0) (x := 0) (z := 0) (.inr ⟨by omega, rfl, rfl⟩)
    have hlen := Mch.cells_length hw0
    have ht5 := (hM2.at 0 rfl).there 0 (rdM m 0 0 0).cells.length (by simp only; rw [zero_len, hlen]; omega)
    have hM3 := hM2.setAll 0 rfl (vs := (rdM m 0 0 0).cells) (by rw [zero_len, hlen])
    simp only [List.set_cons_zero] at hM3
    have HIM := Lib.hid (mach_infoT hw0)
    have H1 := Lib.hid (mach_ones (rdM m 0 0 0))
    have HST := Lib.hid (zeroM_set m)
    have HM3 := Lib.hid hM3
    have HLS : Hid (m.S = (m.s : Int) ∧ m.L = (m.l : Int)) := ⟨hok.S_eq, hok.L_eq⟩
    have s16 : ¬ ((16 : Int) < (m.s : Int)) := by omega
    have HLT : Hid (gv < w2.heap.size) := World.block_lt_of_cell? w2 _ (HCV.out 0 (by omega))
    clear hM' hM1 hM2 hM3 hcv hrl hw0 hlen HM0 HSP HX HS2
    go_wp2_with ((with_reducible refine st_row ?_ 25 (.tmp 5) (.tmp 38) ?_ w2.heap.size 0 (rdM m 0 0 0).cells ?_ ?_ ht5 HIM.out H1.out ?_); exact rfl; exact rfl; exact rfl; (rw [← HST.out, HLS.out.1, HLS.out.2, HML.out]; exact rfl))
    clear ht5 HIM H1 HST a0 a1
    go_loopw [6] (fun qv wr => ∃ q : Nat, q ≤ m.s ∧ qv = .int .i64 (q : Int) ∧ Mm w.heap.size w wr [(w2.heap.size, (rdM m q 0 0).cells, 25), (w.heap.size, Tryd.zeroCells25.toList, 25)] [(.slice (some ⟨gv, 0, none⟩) m.s cv, 9, stS (rowsB m))]) (fun qv _ => m.s - (intOf qv).toNat)
    case atStart => exact ⟨0, Nat.zero_le _, rfl, HM3.out⟩
    case round =>
      clear HM3
      obtain ⟨q, hq, rfl, hM⟩ := hrel
      have eq : IntKind.i64.wrap ((q : Int) + 1) = (q : Int) + 1 := IntWalk.i64_in _ (by omega)
      by_cases hlt : q < m.s
      · have q1 : (0 : Int) ≤ (q : Int) := by omega
        have q2 : (q : Int) < 16 := by omega
        have q3 : (q : Int) < (m.s : Int) := by omega
        have hrs := rowB_size m q
        have e2 : IntKind.i64.wrap (2 * (m.l : Int)) = 2 * (m.l : Int) := IntWalk.i64_in _ (by omega)
        have hrz : ((rowB m q).size : Int) = 2 * (m.l : Int) := by rw [hrs]; omega
        have HCS : Hid (∀ W x z, Mm w.heap.size w W [(w2.heap.size, (rdM m q x z).cells, 25), (w.heap.size, Tryd.zeroCells25.toList, 25)] [(.slice (some ⟨gv, 0, none⟩) m.s cv, 9, stS (rowsB m))] → W.cell? ⟨gv, q, none⟩ = some (.string (rowB m q)) ∧ W.cell? ⟨w2.heap.size, 0, none⟩ = some (.int .i64 (m.l : Int))) := fun W x z h => by
          have cl := (h.mach 0 rfl).l
          have cr := (h.own _ (List.mem_cons_self ..))
          have := World.ownsRow.cells cr (g := gv) rfl q (.string (rowB m q)) (by simp [stS, rowsB, hlt])
          rw [show (⟨gv, 0, none⟩ : Addr).add q = ⟨gv, q, none⟩ by unfold Addr.add; split <;> simp_all] at this
          exact ⟨this, by rw [← HLE.out]; exact cl⟩
        have HMd := Lib.hid hM.drew
        have HRG : Hid (∀ x, x < m.l → ∀ h1 h2, ((rowB m q)[2 * x]'h1).toNat = 48 + m.on q x ∧ ((rowB m q)[2 * x + 1]'h2).toNat = 97 + m.nn q x) := fun x hx h1 h2 => rowB_get hok hwf hlt hx h1 h2
        clear hM
        generalize hr : rowB m q = r at *
        clear hr
        go_wp2_with fail
        refine region_A (fun W => W.cell? ⟨gv, q, none⟩ = some (.string r) ∧ W.cell? ⟨w2.heap.size, 0, none⟩ = some (.int .i64 (m.l : Int))) [] 9 (fun W => Mm w.heap.size w W [(w2.heap.size, (rdM m q 0 0).cells, 25), (w.heap.size, Tryd.zeroCells25.toList, 25)] [(.slice (some ⟨gv, 0, none⟩) m.s cv, 9, stS (rowsB m))]) rfl HMX.out HMd.out (fun W h => HCS.out W _ _ h) (fun W hM hU => ?_)
        clear HMd
        (refine AnyS.take (i := 0) rfl (by kernel_rfl) (by kernel_rfl) (by kernel_rfl) (by rfl) (fun _ _ _ h => h) (by rfl) (by intro w; go_simp; with_reducible rfl) hU (fun hU => ?_); (try simp only [Act.put, List.setIfInBounds_toArray, List.set_cons_zero, List.set_cons_succ]); refine AnyS.take (i := 1) rfl (by kernel_rfl) (by kernel_rfl) (by kernel_rfl) (by rfl) (fun _ _ _ h => h) (by rfl) (by intro w; go_simp; with_reducible rfl) hU (fun hU => ?_); (try simp only [Act.put, List.setIfInBounds_toArray, List.set_cons_zero, List.set_cons_succ]); refine AnyS.take (i := 2) rfl (by kernel_rfl) (by kernel_rfl) (by kernel_rfl) (by rfl) (fun _ _ _ h => h) (by rfl) (by intro w; go_simp; with_reducible rfl) hU (fun hU => ?_); (try simp only [Act.put, List.setIfInBounds_toArray, List.set_cons_zero, List.set_cons_succ]))
        (refine AnyS.takeS (i := 3) rfl (by kernel_rfl) (by kernel_rfl) (by kernel_rfl) (by rfl) (by kernel_rfl) (by kernel_rfl) (fun _ _ _ h => h) (by rfl) (by intro W hSw; have h1 := hSw.1; clear hSw; go_simp; with_reducible rfl) hU (fun hU => ?_); (try simp only [Act.put, List.setIfInBounds_toArray, List.set_cons_zero, List.set_cons_succ]))
        (refine AnyS.take (i := 4) rfl (by kernel_rfl) (by kernel_rfl) (by kernel_rfl) (by rfl) (fun _ _ _ h => h) (by rfl) (by intro w; go_simp; with_reducible rfl) hU (fun hU => ?_); (try simp only [Act.put, List.setIfInBounds_toArray, List.set_cons_zero, List.set_cons_succ]); refine AnyS.take (i := 5) rfl (by kernel_rfl) (by kernel_rfl) (by kernel_rfl) (by rfl) (fun _ _ _ h => h) (by rfl) (by intro w; go_simp; with_reducible rfl) hU (fun hU => ?_); (try simp only [Act.put, List.setIfInBounds_toArray, List.set_cons_zero, List.set_cons_succ]))
        (refine AnyS.takeS (i := 6) rfl (by kernel_rfl) (by kernel_rfl) (by kernel_rfl) (by rfl) (by kernel_rfl) (by kernel_rfl) (fun _ _ _ h => h) (by rfl) (by intro W hSw; have h1 := hSw.2; clear hSw; go_simp; with_reducible rfl) hU (fun hU => ?_); (try simp only [Act.put, List.setIfInBounds_toArray, List.set_cons_zero, List.set_cons_succ]))
        (refine AnyS.take (i := 7) rfl (by kernel_rfl) (by kernel_rfl) (by kernel_rfl) (by rfl) (fun _ _ _ h => h) (by rfl) (by intro w; go_simp; with_reducible rfl) hU (fun hU => ?_); (try simp only [Act.put, List.setIfInBounds_toArray, List.set_cons_zero, List.set_cons_succ]); refine AnyS.take (i := 8) rfl (by kernel_rfl) (by kernel_rfl) (by kernel_rfl) (by rfl) (fun _ _ _ h => h) (by rfl) (by intro w; go_simp; with_reducible rfl) hU (fun hU => ?_); (try simp only [Act.put, List.setIfInBounds_toArray, List.set_cons_zero, List.set_cons_succ]))
        refine AnyS.done (by kernel_rfl) ?_ _
        clear hU
        have j1 : ((r.size : Int) != 2 * (m.l : Int)) = false := by rw [hrz]; simp
        go_wp2_with fail
        clear j1
        go_loopw [7] (fun xv wr => ∃ x : Nat, x ≤ m.l ∧ xv = .int .i64 (x : Int) ∧ Mm w.heap.size w wr [(w2.heap.size, (rdM m q x x).cells, 25), (w.heap.size, Tryd.zeroCells25.toList, 25)] [(.slice (some ⟨gv, 0, none⟩) m.s cv, 9, stS (rowsB m))]) (fun xv _ => m.l - (intOf xv).toNat)
        case atStart => exact ⟨0, Nat.zero_le _, rfl, hM⟩
        case round =>
          clear hM
          obtain ⟨x, hx, rfl, hM⟩ := hrel
          have ex : IntKind.i64.wrap ((x : Int) + 1) = (x : Int) + 1 := IntWalk.i64_in _ (by omega)
          have cl := (HCS.out _ _ _ hM).2
          by_cases hxl : x < m.l
          · have x1 : (0 : Int) ≤ (x : Int) := by omega
            have x2 : (x : Int) < 3 := by omega
            have x3 : (x : Int) < (m.l : Int) := by omega
            have hg := HRG.out x hxl (by omega) (by omega)
            have e3 : IntKind.i64.wrap (2 * (x : Int)) = 2 * (x : Int) := IntWalk.i64_in _ (by omega)
            have e4 : IntKind.i64.wrap (2 * (x : Int) + 1) = 2 * (x : Int) + 1 := IntWalk.i64_in _ (by omega)
            have x4 : (0 : Int) ≤ 2 * (x : Int) := by omega
            have x5 : 2 * (x : Int) < (r.size : Int) := by omega
            have x6 : (0 : Int) ≤ 2 * (x : Int) + 1 := by omega
            have x7 : 2 * (x : Int) + 1 < (r.size : Int) := by omega
            have x8 : 2 * (x : Int) + 1 < 2 * (m.l : Int) := by omega
            have x9 : 2 * (x : Int) < 2 * (m.l : Int) := by omega
            have HMd := Lib.hid hM.drew
            have HG := Lib.hid hg
            clear hM hg
            go_wp2_with fail
            clear cl
            refine region_A (fun W => W.cell? ⟨gv, q, none⟩ = some (.string r) ∧ W.cell? ⟨w2.heap.size, 0, none⟩ = some (.int .i64 (m.l : Int))) [] 17 (fun W => Mm w.heap.size w W [(w2.heap.size, (rdM m q x x).cells, 25), (w.heap.size, Tryd.zeroCells25.toList, 25)] [(.slice (some ⟨gv, 0, none⟩) m.s cv, 9, stS (rowsB m))]) rfl HMX.out HMd.out (fun W h => HCS.out W _ _ h) (fun W hM hU => ?_)
            clear HMd
            (refine AnyS.take (i := 0) rfl (by kernel_rfl) (by kernel_rfl) (by kernel_rfl) (by rfl) (fun _ _ _ h => h) (by rfl) (by intro w; go_simp; with_reducible rfl) hU (fun hU => ?_); (try simp only [Act.put, List.setIfInBounds_toArray, List.set_cons_zero, List.set_cons_succ]); refine AnyS.take (i := 1) rfl (by kernel_rfl) (by kernel_rfl) (by kernel_rfl) (by rfl) (fun _ _ _ h => h) (by rfl) (by intro w; go_simp; with_reducible rfl) hU (fun hU => ?_); (try simp only [Act.put, List.setIfInBounds_toArray, List.set_cons_zero, List.set_cons_succ]); refine AnyS.take (i := 2) rfl (by kernel_rfl) (by kernel_rfl) (by kernel_rfl) (by rfl) (fun _ _ _ h => h) (by rfl) (by intro w; go_simp; with_reducible rfl) hU (fun hU => ?_); (try simp only [Act.put, List.setIfInBounds_toArray, List.set_cons_zero, List.set_cons_succ]))
            (refine AnyS.takeS (i := 3) rfl (by kernel_rfl) (by kernel_rfl) (by kernel_rfl) (by rfl) (by kernel_rfl) (by kernel_rfl) (fun _ _ _ h => h) (by rfl) (by intro W hSw; have h1 := hSw.1; clear hSw; go_simp; with_reducible rfl) hU (fun hU => ?_); (try simp only [Act.put, List.setIfInBounds_toArray, List.set_cons_zero, List.set_cons_succ]))
            (refine AnyS.take (i := 4) rfl (by kernel_rfl) (by kernel_rfl) (by kernel_rfl) (by rfl) (fun _ _ _ h => h) (by rfl) (by intro w; go_simp; with_reducible rfl) hU (fun hU => ?_); (try simp only [Act.put, List.setIfInBounds_toArray, List.set_cons_zero, List.set_cons_succ]); refine AnyS.take (i := 5) rfl (by kernel_rfl) (by kernel_rfl) (by kernel_rfl) (by rfl) (fun _ _ _ h => h) (by rfl) (by intro w; go_simp; with_reducible rfl) hU (fun hU => ?_); (try simp only [Act.put, List.setIfInBounds_toArray, List.set_cons_zero, List.set_cons_succ]); refine AnyS.take (i := 6) rfl (by kernel_rfl) (by kernel_rfl) (by kernel_rfl) (by rfl) (fun _ _ _ h => h) (by rfl) (by intro w; go_simp; with_reducible rfl) hU (fun hU => ?_); (try simp only [Act.put, List.setIfInBounds_toArray, List.set_cons_zero, List.set_cons_succ]); refine AnyS.take (i := 7) rfl (by kernel_rfl) (by kernel_rfl) (by kernel_rfl) (by rfl) (fun _ _ _ h => h) (by rfl) (by intro w; go_simp; with_reducible rfl) hU (fun hU => ?_); (try simp only [Act.put, List.setIfInBounds_toArray, List.set_cons_zero, List.set_cons_succ]); refine AnyS.take (i := 8) rfl (by kernel_rfl) (by kernel_rfl) (by kernel_rfl) (by rfl) (fun _ _ _ h => h) (by rfl) (by intro w; go_simp; with_reducible rfl) hU (fun hU => ?_); (try simp only [Act.put, List.setIfInBounds_toArray, List.set_cons_zero, List.set_cons_succ]); refine AnyS.take (i := 9) rfl (by kernel_rfl) (by kernel_rfl) (by kernel_rfl) (by rfl) (fun _ _ _ h => h) (by rfl) (by intro w; go_simp; with_reducible rfl) hU (fun hU => ?_); (try simp only [Act.put, List.setIfInBounds_toArray, List.set_cons_zero, List.set_cons_succ]))
            (refine AnyS.takeS (i := 10) rfl (by kernel_rfl) (by kernel_rfl) (by kernel_rfl) (by rfl) (by kernel_rfl) (by kernel_rfl) (fun _ _ _ h => h) (by rfl) (by intro W hSw; have h1 := hSw.1; clear hSw; go_simp; with_reducible rfl) hU (fun hU => ?_); (try simp only [Act.put, List.setIfInBounds_toArray, List.set_cons_zero, List.set_cons_succ]))
            (refine AnyS.take (i := 11) rfl (by kernel_rfl) (by kernel_rfl) (by kernel_rfl) (by rfl) (fun _ _ _ h => h) (by rfl) (by intro w; go_simp; with_reducible rfl) hU (fun hU => ?_); (try simp only [Act.put, List.setIfInBounds_toArray, List.set_cons_zero, List.set_cons_succ]); refine AnyS.take (i := 12) rfl (by kernel_rfl) (by kernel_rfl) (by kernel_rfl) (by rfl) (fun _ _ _ h => h) (by rfl) (by intro w; go_simp; with_reducible rfl) hU (fun hU => ?_); (try simp only [Act.put, List.setIfInBounds_toArray, List.set_cons_zero, List.set_cons_succ]); refine AnyS.take (i := 13) rfl (by kernel_rfl) (by kernel_rfl) (by kernel_rfl) (by rfl) (fun _ _ _ h => h) (by rfl) (by intro w; go_simp; with_reducible rfl) hU (fun hU => ?_); (try simp only [Act.put, List.setIfInBounds_toArray, List.set_cons_zero, List.set_cons_succ]); refine AnyS.take (i := 14) rfl (by kernel_rfl) (by kernel_rfl) (by kernel_rfl) (by rfl) (fun _ _ _ h => h) (by rfl) (by intro w; go_simp; with_reducible rfl) hU (fun hU => ?_); (try simp only [Act.put, List.setIfInBounds_toArray, List.set_cons_zero, List.set_cons_succ]); refine AnyS.take (i := 15) rfl (by kernel_rfl) (by kernel_rfl) (by kernel_rfl) (by rfl) (fun _ _ _ h => h) (by rfl) (by intro w; go_simp; with_reducible rfl) hU (fun hU => ?_); (try simp only [Act.put, List.setIfInBounds_toArray, List.set_cons_zero, List.set_cons_succ]); refine AnyS.take (i := 16) rfl (by kernel_rfl) (by kernel_rfl) (by kernel_rfl) (by rfl) (fun _ _ _ h => h) (by rfl) (by intro w; go_simp; with_reducible rfl) hU (fun hU => ?_); (try simp only [Act.put, List.setIfInBounds_toArray, List.set_cons_zero, List.set_cons_succ]))
            refine AnyS.done (by kernel_rfl) ?_ _
            clear hU
            have g1 : ∀ h, ((r[(2 * (x : Int)).toNat]'h).toNat : Int) = 48 + (m.on q x : Int) := fun h => by
              have h1 := HG.out.1
              have e : (2 * (x : Int)).toNat = 2 * x := by omega
              simp only [e]; omega
            have g2 : ∀ h, ((r[(2 * (x : Int) + 1).toNat]'h).toNat : Int) = 97 + (m.nn q x : Int) := fun h => by
              have h1 := HG.out.2
              have e : (2 * (x : Int) + 1).toNat = 2 * x + 1 := by omega
              simp only [e]; omega
            rw [g1, g2]
            have hn := hok.nn_lt hwf hlt hxl
            have ho := hok.on_lt hwf hlt hxl
            have hw1 := rdM_wf hok hwf (q := q) (x := x) (z := x) (.inl hlt)
            have hw2 := rdM_wf hok hwf (q := q) (x := x) (z := x + 1) (.inl hlt)
            have d1 := (hM.mach 0 rfl).oo hw1 (q := q) (x := x) (by omega) (by omega)
            have f1 := (hM.at 0 rfl).free (50 + q * 3 + x)
            have hM4 := hM.setCell 0 rfl (50 + q * 3 + x) (.int .u8 (m.on q x : Int))
            simp only [List.set_cons_zero] at hM4
            rw [rdM_setO hl3 (by omega) hxl] at hM4
            have d2 := (hM4.mach 0 rfl).nn hw2 (q := q) (x := x) (by omega) (by omega)
            have f2 := (hM4.at 0 rfl).free (2 + q * 3 + x)
            have hM5 := hM4.setCell 0 rfl (2 + q * 3 + x) (.int .u8 (m.nn q x : Int))
            simp only [List.set_cons_zero] at hM5
            rw [rdM_setN hl3 (by omega) hxl] at hM5
            have D1 : Hid (∃ u, W.cell? ⟨w2.heap.size, 50 + q * 3 + x, none⟩ = some (.int .u8 u)) := ⟨_, by simpa using d1⟩
            have D2 : Hid (∃ u, (W.setCell ⟨w2.heap.size, 50 + q * 3 + x, none⟩ (.int .u8 (m.on q x : Int))).cell? ⟨w2.heap.size, 2 + q * 3 + x, none⟩ = some (.int .u8 u)) := ⟨_, by simpa using d2⟩
            obtain ⟨v1, d1⟩ := D1.out
            obtain ⟨v2, d2⟩ := D2.out
            have HM5 := Lib.hid hM5
            have o1 : ¬ (48 + (m.on q x : Int) < 48) := by omega
            have o2 : ¬ ((50 : Int) < 48 + (m.on q x : Int)) := by omega
            have n1 : ¬ (97 + (m.nn q x : Int) < 97) := by omega
            have n2 : ¬ ((112 : Int) < 97 + (m.nn q x : Int)) := by omega
            have u1 : IntKind.u8.wrap (48 + (m.on q x : Int) - 48) = (m.on q x : Int) := by rw [show (48 + (m.on q x : Int) - 48) = (m.on q x : Int) by omega]; exact IntWalk.u8_in _ ⟨by omega, by omega⟩
            have u2 : IntKind.u8.wrap (97 + (m.nn q x : Int) - 97) = (m.nn q x : Int) := by rw [show (97 + (m.nn q x : Int) - 97) = (m.nn q x : Int) by omega]; exact IntWalk.u8_in _ ⟨by omega, by omega⟩
            clear g1 g2 hM hM4 hM5 hw1 hw2 HG D1 D2 hn ho x4 x5 x6 x7 x8 x9 e3 e4
            generalize m.on q x = oq at *
            generalize m.nn q x = nq at *
            go_wp2_with fail
            go_roundw
            case rel => exact ⟨x + 1, by omega, by go_num, HM5.out⟩
            case measure => simp [intOf] <;> omega
          · obtain rfl : x = m.l := by omega
            have x3 : ¬ ((m.l : Int) < (m.l : Int)) := by omega
            rw [rdM_row] at hM
            have HM := Lib.hid hM
            clear hM
            go_wp2_with fail
            go_roundw
            case rel => exact ⟨q + 1, by omega, by go_num, HM.out⟩
            case measure => simp [intOf] <;> omega
      · obtain rfl : q = m.s := by omega
        have q3 : ¬ ((m.s : Int) < (m.s : Int)) := by omega
        rw [HRA.out] at hM
        have HMd := Lib.hid hM.drew
        have HMI := Lib.hid (mach_infoT hwf)
        have HIT := Lib.hid (mach_infoT hwf)
        have HM1 := Lib.hid (mach_ones m)
        have HML2 := Lib.hid (Mch.cells_length hwf)
        clear hM
        go_wp2_with fail
        refine region_A (fun W => MAt W w2.heap.size 0 m) [] 5 (fun W => Mm w.heap.size w W [(w2.heap.size, m.cells, 25), (w.heap.size, Tryd.zeroCells25.toList, 25)] [(.slice (some ⟨gv, 0, none⟩) m.s cv, 9, stS (rowsB m))]) rfl HMX.out HMd.out (fun W h => h.mach 0 rfl) (fun W hM hU => ?_)
        clear HMd
        (refine AnyS.takeS (i := 0) rfl (by kernel_rfl) (by kernel_rfl) (by kernel_rfl) (by rfl) (by kernel_rfl) (by kernel_rfl) (fun _ _ _ h => h) (by rfl) (fun W hW => run_ld Tryd.underlying25 rfl HMI.out (.tmp 5) rfl rfl hW) hU (fun hU => ?_); (try simp only [Act.put, List.setIfInBounds_toArray, List.set_cons_zero, List.set_cons_succ]))
        (refine AnyS.takeS (i := 1) rfl (by kernel_rfl) (by kernel_rfl) (by kernel_rfl) (by rfl) (by kernel_rfl) (by kernel_rfl) (fun _ _ _ h => h) (by rfl) (fun W hW => run_ld Tryd.underlying25 rfl HMI.out (.tmp 5) rfl rfl hW) hU (fun hU => ?_); (try simp only [Act.put, List.setIfInBounds_toArray, List.set_cons_zero, List.set_cons_succ]))
        (refine AnyS.branch (rs := [2]) (by kernel_rfl) (List.cons_ne_nil _ _) ?_; refine AllS.cons rfl ?_ AllS.nil; intro K hK)
        go_simp
        refine (HIS.out _).mono ?_
        rintro e w4 ⟨rfl, hb4⟩
        have hM4 := hM.call hb4
        refine hK.out _ _ (.inl (hM4.mach 0 rfl)) (fun hU => ?_)
        clear hK K hM hb4
        rw [HMT.out]
        (try simp only [Act.put, List.setIfInBounds_toArray, List.set_cons_zero, List.set_cons_succ])
        have ht := (hM4.at 1 rfl).there 0 m.cells.length (by simp only; rw [zero_len, HML2.out]; omega)
        have hM5 := hM4.setAll 1 rfl (vs := m.cells) (by rw [zero_len, HML2.out])
        simp only [List.set_cons_zero, List.set_cons_succ] at hM5
        (refine AnyS.branch (rs := [3]) (by kernel_rfl) (List.cons_ne_nil _ _) ?_; refine AllS.cons rfl ?_ AllS.nil; intro K hK)
        refine ite_of (by kernel_rfl) ?_
        refine wp_st 25 (.tmp 2) (.tmp 109) rfl w.heap.size 0 m.cells rfl rfl ht HIT.out HM1.out ?_
        refine hK.out _ _ (.inl (hM5.mach 0 rfl)) (fun hU => ?_)
        clear hK K ht hM4
        (try simp only [Act.put, List.setIfInBounds_toArray, List.set_cons_zero, List.set_cons_succ])
        (refine AnyS.take (i := 4) rfl (by kernel_rfl) (by kernel_rfl) (by kernel_rfl) (by rfl) (fun _ _ _ h => h) (by rfl) (by intro w; go_simp; with_reducible rfl) hU (fun hU => ?_); (try simp only [Act.put, List.setIfInBounds_toArray, List.set_cons_zero, List.set_cons_succ]))
        refine AnyS.done (by kernel_rfl) ?_ _
        clear hU
        generalize w4.setCells w.heap.size 0 m.cells = W2 at *
        have HB1 := Lib.hid (hM5.at 1 rfl)
        have HBL := Lib.hid hM5.below
        clear hM5
        go_wp2_with fail
        exact bodyPost_ret (v := .tuple #[.agg m.cells.toArray, .bool true]) (results_cell_tmp Tryd.results13 _ _ w.heap.size 25 m.cells.toArray (0, 0) (.struct _) rfl HB1.out Tryd.underlying25 rfl (HIT.out.trans (by rw [List.size_toArray]))) rfl ⟨rfl, HBL.out⟩
end Go.Proofs.YthgkkaifdlkciaaDoor
