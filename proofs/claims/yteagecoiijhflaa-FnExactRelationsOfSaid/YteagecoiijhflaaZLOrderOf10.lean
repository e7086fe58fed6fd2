import Derived.Test.YteagecoiijhflaaZLOrderOf09
import Derived.Test.YteagecoiijhflaaZLOrderOf06
import Derived.Maps.Own
import Derived.Maps.Views
import Derived.StringKeys
import Derived.Carry
import Derived.Test.YteagecoiijhflaaZLOrderOf05
import Derived.Test.YteagecoiijhflaaZLOrderOf04
import Derived.Test.YteagecoiijhflaaZLOrderOf03
import Derived.StillTailTactics
/- A map of strings to numbers beside memory of one's own; the places of a queue. -/
namespace Go.Proofs.Yteagecoiijhflaa
open Go.RowKit
set_option linter.unusedVariables false
set_option linter.unusedSimpArgs false
set_option linter.unusedSectionVars false

/-- block b is a map of at most n entries that reads as f -/
def MapN (w : World) (b n : Nat) (f : ByteArray → Option Nat) : Prop :=
  ∃ D : DataW Unit, Maps.IsMap D ∧ w.ownsMap Try.prog 9 (plainElem Try.prog 2) b n D ∧
    ∀ s, match f s with | none => ∀ z, D.atKey (.string s.data.toList) z = z | some t => ∀ z, D.atKey (.string s.data.toList) z = .lit (.int .i64 (t : Int))
theorem litN_ne {s t : ByteArray} (h : s ≠ t) : Lit.string s.data.toList ≠ Lit.string t.data.toList := fun e => h (by
  injection e with e
  exact ByteArray.ext (Array.toList_inj.1 e))
theorem zeroN (w : World) : (zeroValue 2).run Try.prog w = .ok (.int .i64 0) w := by kernel_rfl
theorem plainN_inv {P : Program} {e : TypeId} (hu : P.underlying e = some (.int .i64)) {v : Value} {t : Int} {ps : List MemPlace} (h : plainElem (H := Unit) P e v = some (.lit (.int .i64 t), ps)) : v = .int .i64 t := by
  unfold plainElem at h
  rw [hu] at h
  cases v <;> simp only [reduceCtorEq] at h
  split at h
  · simp only [Option.some.injEq, Prod.mk.injEq, DataW.lit.injEq, Lit.int.injEq] at h
    rename_i hh
    rw [hh.1, h.1.2]
  · cases h
theorem MapN.new (w : World) : MapN (w.alloc (.map #[] 0)) w.heap.size 0 (fun _ => none) :=
  ⟨.map [], Maps.isMap_empty, World.ownsMap_made w _ _ _, fun s z => rfl⟩
theorem MapN.lt {w : World} {b n : Nat} {f : ByteArray → Option Nat} (h : MapN w b n f) : b < w.heap.size := by
  obtain ⟨D, _, h2, _⟩ := h
  exact h2.lt
theorem MapN.kept {w w' : World} {b n : Nat} {f : ByteArray → Option Nat} (h : MapN w b n f) (e : w'.heap[b]? = w.heap[b]?) : MapN w' b n f := by
  obtain ⟨D, h1, ⟨es, clock, hb, F, hs, hD⟩, h3⟩ := h
  exact ⟨D, h1, ⟨es, clock, e.trans hb, F, hs, hD⟩, h3⟩
theorem MapN.below {w w' : World} {b n C : Nat} {f : ByteArray → Option Nat} (h : MapN w b n f) (hb : Below C w w') (hC : b < C) : MapN w' b n f := h.kept (hb.block b hC)
theorem MapN.look {w : World} {b n : Nat} {f : ByteArray → Option Nat} (h : MapN w b n f) (s : ByteArray) (hs : s.size ≤ maxLen) (c : Bool) :
    (Instr.lookup 164 (.map (some b)) (.string s) c).run Try.prog w = .ok (if c then .tuple #[.int .i64 (((f s).getD 0 : Nat) : Int), .bool (f s).isSome] else .int .i64 (((f s).getD 0 : Nat) : Int)) w := by
  obtain ⟨D, h1, ⟨es, clock, hb, F, hsz, hD⟩, h3⟩ := h
  have h4 := h3 s
  rw [hD] at h4
  rcases Maps.fit_look c (Maps.string_keyed Try.underlying9) Try.underlying164 (zeroN w) hb F (WideMaps.keyOf_string_mk Try.underlying9 hs) with ⟨hrun, _, hat⟩ | ⟨e0, y, _, _, hrun, hRv, hat, _⟩
  · cases hf : f s with
    | none => rw [hrun]; rfl
    | some t =>
      rw [hf] at h4
      have e1 := h4 (.lit (.bool true))
      rw [hat] at e1
      cases e1
  · cases hf : f s with
    | none =>
      rw [hf] at h4
      have e1 := (h4 (.lit (.bool true))).symm.trans (hat _)
      have e2 := (h4 (.lit (.bool false))).symm.trans (hat _)
      have := e1.trans e2.symm
      cases this
    | some t =>
      rw [hf] at h4
      have e1 := (hat (.lit (.bool true))).symm.trans (h4 _)
      obtain ⟨y1, y2⟩ := y
      simp only at e1
      subst e1
      rw [hrun, plainN_inv Try.underlying2 hRv]
      cases c <;> rfl
theorem MapN.put {w : World} {b n : Nat} {f : ByteArray → Option Nat} (h : MapN w b n f) (hn : n ≤ 100000) (s : ByteArray) (t : Nat) (hs : s.size ≤ maxLen) (ht : t ≤ 100000) :
    ∃ w', (Instr.mapUpdate 164 (.map (some b)) (.string s) (.int .i64 (t : Int))).run Try.prog w = .ok () w' ∧ MapN w' b (n + 1) (fun x => if x = s then some t else f x) ∧ w.grownBy w' (some b) := by
  obtain ⟨D, h1, h2, h3⟩ := h
  have hwf : (Lit.int .i64 (t : Int)).wf = true := by
    have h1 : (0 : Int) ≤ (t : Int) := by omega
    have h2 : (t : Int) ≤ 100000 := by omega
    generalize (t : Int) = T at *
    simp [Lit.wf, IntKind.min, IntKind.max, IntKind.signed, IntKind.bits]; omega
  obtain ⟨w', hrun, ho, hg⟩ := h2.update (Maps.string_keyed Try.underlying9) Try.underlying164 (by simp [maxLen]; omega) (WideMaps.keyOf_string_mk Try.underlying9 hs) (plainElem_int Try.underlying2 hwf)
  refine ⟨w', hrun, ⟨_, ?_, ho, fun x => ?_⟩, hg⟩
  · obtain ⟨es, rfl⟩ := h1
    exact ⟨_, rfl⟩
  · by_cases e : x = s
    · subst e
      simp only [if_true]
      exact fun z => Maps.atKey_put_same h1 ((Maps.string_keyed Try.underlying9).key (WideMaps.keyOf_string_mk Try.underlying9 hs)) _ _
    · simp only [if_neg e]
      have h4 := h3 x
      cases hf : f x with
      | none =>
        rw [hf] at h4
        exact fun z => (Maps.atKey_put_other (litN_ne e) _ _).trans (h4 z)
      | some u =>
        rw [hf] at h4
        exact fun z => (Maps.atKey_put_other (litN_ne e) _ _).trans (h4 z)

/-- memory of one's own, a map of one's own among it -/
structure MQ (B : Nat) (w0 w : World) (G : List (Value × TypeId × List Value)) (b n : Nat) (f : ByteArray → Option Nat) : Prop where
  mm : Mm B w0 w [] G
  map : MapN w b n f
  lo : B ≤ b
  sep : ∀ x ∈ G, x.1.ownBlock ≠ some b
section
variable {B : Nat} {w0 w : World} {G : List (Value × TypeId × List Value)} {b n : Nat} {f : ByteArray → Option Nat}
theorem MQ.call (h : MQ B w0 w G b n f) {w' : World} (hb : Below w.heap.size w w') : MQ B w0 w' G b n f := ⟨h.mm.call hb, h.map.below hb h.map.lt, h.lo, h.sep⟩
theorem MQ.callOwn (h : MQ B w0 w G b n f) {w' : World} (hb : Below w.heap.size w w') {v : Value} {E : TypeId} {k : Nat} {xs : List Value} (ho : w'.ownsRow w.heap.size E 1 v k xs) (hn : k = xs.length) : MQ B w0 w' ((v, E, xs) :: G) b n f := by
  refine ⟨h.mm.callOwn hb ho hn, h.map.below hb h.map.lt, h.lo, fun x hx => ?_⟩
  rcases List.mem_cons.1 hx with rfl | hx
  · intro e
    have h1 := (World.ownsRow.lt ho b e).1
    have h2 := h.map.lt
    omega
  · exact h.sep x hx
theorem MQ.addNil (h : MQ B w0 w G b n f) (E : TypeId) : MQ B w0 w ((.slice none 0 0, E, []) :: G) b n f := by
  refine ⟨h.mm.addNil E, h.map, h.lo, fun x hx => ?_⟩
  rcases List.mem_cons.1 hx with rfl | hx
  · simp [Value.ownBlock]
  · exact h.sep x hx
theorem MQ.perm (h : MQ B w0 w G b n f) {G' : List (Value × TypeId × List Value)} (hp : G.Perm G') : MQ B w0 w G' b n f := ⟨h.mm.permG hp, h.map, h.lo, fun x hx => h.sep x (hp.mem_iff.2 hx)⟩
theorem MQ.sub (h : MQ B w0 w G b n f) {G' : List (Value × TypeId × List Value)} (hs : G'.Sublist G) : MQ B w0 w G' b n f := ⟨h.mm.subG hs, h.map, h.lo, fun x hx => h.sep x (hs.subset hx)⟩
/-- a write into the map alone -/
theorem Mm.beside (h : Mm B w0 w [] G) {w' : World} (hg : w.grownBy w' (some b)) (hB : B ≤ b) (hs : ∀ x ∈ G, x.1.ownBlock ≠ some b) : Mm B w0 w' [] G := by
  refine ⟨⟨hg.os.trans h.below.os, hg.tape.trans h.below.tape, hg.output.trans h.below.output, Nat.le_trans h.below.size hg.size, fun k hk => ?_⟩, Nat.le_trans h.size hg.size, fun x hx => (by cases hx), List.Pairwise.nil, fun x hx => ?_, fun x hx y hy => (by cases hy), h.gdist⟩
  · have := h.size
    exact (hg.block k (by omega) (by intro e; injection e with e; omega)).trans (h.below.block k hk)
  · have ho := h.own x hx
    refine ⟨ho.1, ?_⟩
    rcases ho.2 with hn | ⟨g, cap, cur, hv, h1, h2, rest⟩
    · exact .inl hn
    · have hlt := h.ownlt hx (by rw [hv]; rfl : x.1.ownBlock = some g)
      refine .inr ⟨g, cap, cur, hv, h1, (hg.block g hlt ?_).trans h2, rest⟩
      intro e
      injection e with e
      exact hs x hx (by rw [hv, e]; rfl)
theorem MQ.put (h : MQ B w0 w G b n f) (hn : n ≤ 100000) (s : ByteArray) (t : Nat) (hs : s.size ≤ maxLen) (ht : t ≤ 100000) :
    ∃ w', (Instr.mapUpdate 164 (.map (some b)) (.string s) (.int .i64 (t : Int))).run Try.prog w = .ok () w' ∧ MQ B w0 w' G b (n + 1) (fun x => if x = s then some t else f x) := by
  obtain ⟨w', hrun, hm, hg⟩ := h.map.put hn s t hs ht
  exact ⟨w', hrun, h.mm.beside hg h.lo h.sep, hm, h.lo, h.sep⟩
/-- 'out = append(out, u)', u of one cell, to the slice number i -/
theorem MQ.append {P : Program} {ops : Array Oper} {rest : List Oper} {o : Oper} {a : Act} {Q : Exit → Act → World → Prop} (hgd : o.guard = none) (s x : Operand) (t : TypeId)
    (ho : o.op = .call { callee := .builtin .append, args := #[s, x], argTypes := #[t, t] })
    (h : MQ B w0 w G b n f) (i : Nat) {v : Value} {E : TypeId} {xs : List Value} (hi : G[i]? = some (v, E, xs)) {i0 : TypeInfo} {z : Value} {bytes : Nat} (ht : P.underlying t = some (.slice E)) (hI : P.info? E = some i0) (hz : i0.zero = some z)
    (hsize : i0.size = 1) (hby : i0.bytes = bytes) (hzs : z.cells.size = 1) {u : Value} (hs : a.eval s = v) (hx : a.eval x = .slice (some ⟨w.heap.size, 0, none⟩) 1 1) (hu : u.oneCell' = true)
    (hlen : xs.length ≤ 1000000) (hbytes : bytes ≤ 1000)
    (hk : ∀ g cap w', MQ B w0 w' (G.set i (.slice (some ⟨g, 0, none⟩) (xs.length + 1) cap, E, xs ++ [u])) b n f → wpList P ops Q rest (a.put o.dst (.slice (some ⟨g, 0, none⟩) (xs.length + 1) cap)) w') :
    wpList P ops Q (o :: rest) a (w.alloc (.cells #[u] E)) := by
  refine wpList_append_lies _ hgd s x t ho B E i0 z 1 bytes ht hI hz hsize hby hzs (by decide) v xs.length xs hs (World.ownsRow.alloc (h.mm.own _ (mem_of_get hi)) _) ⟨w.heap.size, 0, none⟩ 1 1 [u] hx rfl ?_ ?_ (by omega) ?_ ?_ ?_ _ rfl ?_
  · intro j y hj
    have hb := Blk.new w #[u] E
    have hadd : (⟨w.heap.size, 0, none⟩ : Addr).add j = ⟨w.heap.size, j, none⟩ := by unfold Addr.add; split <;> simp_all
    rw [hadd]
    exact hb.cell' hj
  · intro y hy
    rw [List.mem_singleton] at hy
    rw [hy]; exact hu
  · simp [maxLen]; omega
  · calc (xs.length + 1) * bytes ≤ 1000001 * 1000 := Nat.mul_le_mul (by omega) hbytes
      _ ≤ _ := by omega
  · have := h.mm.size; simp; omega
  · intro g cap w' hown hgrow hlies hlt
    have hbl := h.map.lt
    have hne := h.sep _ (mem_of_get hi)
    have hs : (w.alloc (.cells #[u] E)).heap.size = w.heap.size + 1 := by simp
    refine hk g cap w' ⟨h.mm.grow i hi _ rfl hown hgrow hlies, h.map.kept ?_, h.lo, fun y hy => ?_⟩
    · exact (hgrow.block b (by omega) (Ne.symm hne)).trans (Below.heap_alloc w _ b hbl)
    · rcases mem_set_of hy with rfl | ⟨j, hj, hy⟩
      · simp only [Value.ownBlock]
        intro e
        injection e with e
        rcases hlies with h' | h'
        · exact hne (by rw [h', e])
        · omega
      · exact h.sep y (mem_of_get hy)
end

/-- the places of a queue, by the keys -/
def fQ : List Wd → ByteArray → Option Nat
  | [], _ => none
  | h :: t, x => if keyB h = x then some 0 else (fQ t x).map (· + 1)
theorem fQ_mem {m : Mch} (hok : m.Ok) {s : Wd} (hs : GW m s) : ∀ {Q : List Wd}, (∀ h ∈ Q, GW m h) → s ∈ Q → fQ Q (keyB s) = some (Q.idxOf s)
  | [], _, h => by cases h
  | h :: t, hq, hm => by
    by_cases e : h = s
    · subst e; simp [fQ]
    · have hne : ¬ keyB h = keyB s := fun k => e (keyB_inj hok (hq h (List.mem_cons_self ..)) hs k)
      have hm' : s ∈ t := by
        rcases List.mem_cons.1 hm with k | k
        · exact absurd k.symm e
        · exact k
      rw [fQ, if_neg hne, fQ_mem hok hs (fun x hx => hq x (List.mem_cons_of_mem _ hx)) hm', List.idxOf_cons]
      rw [show (h == s) = false from by simpa using e]; rfl
theorem fQ_not {m : Mch} (hok : m.Ok) {s : Wd} (hs : GW m s) : ∀ {Q : List Wd}, (∀ h ∈ Q, GW m h) → s ∉ Q → fQ Q (keyB s) = none
  | [], _, _ => rfl
  | h :: t, hq, hm => by
    have hne : ¬ keyB h = keyB s := fun k => hm (by rw [keyB_inj hok (hq h (List.mem_cons_self ..)) hs k]; exact List.mem_cons_self ..)
    rw [fQ, if_neg hne, fQ_not hok hs (fun x hx => hq x (List.mem_cons_of_mem _ hx)) (fun k => hm (List.mem_cons_of_mem _ k))]; rfl
theorem fQ_snoc {m : Mch} (hok : m.Ok) {s : Wd} (hs : GW m s) : ∀ {Q : List Wd}, (∀ h ∈ Q, GW m h) → s ∉ Q → fQ (Q ++ [s]) = fun x => if x = keyB s then some Q.length else fQ Q x
  | [], _, _ => by
    funext x
    simp only [List.nil_append, fQ, List.length_nil]
    by_cases e : keyB s = x
    · rw [if_pos e, if_pos e.symm]
    · rw [if_neg e, if_neg (fun k => e k.symm)]; rfl
  | h :: t, hq, hm => by
    have hne : ¬ keyB h = keyB s := fun k => hm (by rw [keyB_inj hok (hq h (List.mem_cons_self ..)) hs k]; exact List.mem_cons_self ..)
    have ih := fQ_snoc hok hs (fun x hx => hq x (List.mem_cons_of_mem _ hx)) (fun k => hm (List.mem_cons_of_mem _ k))
    funext x
    simp only [List.cons_append, fQ, ih, List.length_cons]
    by_cases e : x = keyB s
    · rw [if_pos e, if_pos e, if_neg (fun k => hne (k.trans e))]; rfl
    · rw [if_neg e, if_neg e]
theorem fQ_one (s : Wd) : fQ [s] = fun x => if x = keyB s then some 0 else none := by
  funext x
  simp only [fQ]
  by_cases e : keyB s = x
  · rw [if_pos e, if_pos e.symm]
  · rw [if_neg e, if_neg (fun k => e k.symm)]; rfl

/-- what is read of a queue -/
theorem Mm.readQ {B : Nat} {w0 w : World} {L : List (Nat × List Value × TypeId)} {G : List (Value × TypeId × List Value)} (h : Mm B w0 w L G) {v : Value} {rq : List Value} {Q : List Wd} (hl : rq.length = Q.length) (hv : (v, 26, rq) ∈ G) (hr : ∀ x ∈ rowG rq Q, x ∈ G) {i : Nat} (hi : i < Q.length) :
    ∃ g c a d, v = .slice (some ⟨g, 0, none⟩) Q.length c ∧ w.cell? ⟨g, i, none⟩ = some (.slice a (Q[i]?.getD []).length d) ∧ IntsAt w a (Q[i]?.getD []) := by
  have ho := h.own _ hv
  simp only at ho
  obtain ⟨g, c, e, -, -, hc⟩ := own_form ho (by omega)
  have hrow : OwnI w B (rq[i]?.getD undef) (Q[i]?.getD []) := OwnI.of_row (h.own _ (hr _ (mem_of_get (rowG_get hl hi))))
  obtain ⟨a, d, e', hI⟩ := hrow.form
  refine ⟨g, c, a, d, by rw [e, hl], ?_, hI⟩
  have := hc i (rq[i]?.getD undef) (by rw [List.getElem?_eq_getElem (by omega)]; rfl)
  rw [this, e']
end Go.Proofs.Yteagecoiijhflaa

/- sections: the program's search through the sections of a word. -/
namespace Go.Proofs.Yteagecoiijhflaa
open Go.RowKit
set_option linter.unusedVariables false
set_option linter.unusedSimpArgs false

def natsI (r : List Nat) : Wd := r.map fun a : Nat => (a : Int)
/-- the queue, the rows, and what they hold -/
def gS (v9 : Value) (rq : List Value) (Q : List Wd) (v11 : Value) (rn : List Value) (N : List (List Nat)) : List (Value × TypeId × List Value) :=
  (v9, 26, rq) :: (v11, 26, rn) :: (rowG rq Q ++ rowG rn (N.map natsI))
/-- a queue, the rows and a code -/
def RetSec (R : Except Int (List Wd × List (List Nat))) (w : World) (e : Ending) (w' : World) : Prop :=
  match R with
  | .error c => e = .returned (.tuple #[.slice none 0 0, .slice none 0 0, .int .i64 c]) ∧ Below w.heap.size w w'
  | .ok (Q, N) => ∃ v9 rq v11 rn, e = .returned (.tuple #[v9, v11, .int .i64 0]) ∧ rq.length = Q.length ∧ rn.length = N.length ∧ Mm w.heap.size w w' [] (gS v9 rq Q v11 rn N)
theorem gS_rows {v9 v11 : Value} {rq rn : List Value} {Q : List Wd} {N : List (List Nat)} : ∀ x ∈ rowG rq Q, x ∈ gS v9 rq Q v11 rn N := fun x hx => List.mem_cons_of_mem _ (List.mem_cons_of_mem _ (List.mem_append_left _ hx))
theorem gS_queue {v9 v11 v s : Value} {rq rn : List Value} {Q : List Wd} {N : List (List Nat)} {g : Wd} {X : Value × TypeId × List Value} (hl : rq.length = Q.length) :
    ((s, 2, i64s g) :: X :: (v9, 26, rq ++ [s]) :: (v11, 26, rn) :: (rowG rq Q ++ rowG rn (N.map natsI))).Perm (X :: gS v9 (rq ++ [s]) (Q ++ [g]) v11 rn N) := by
  rw [gS, rowG_snoc s g hl]
  refine (List.Perm.swap _ _ _).trans (List.Perm.cons _ ((List.Perm.swap _ _ _).trans (List.Perm.cons _ ((List.Perm.swap _ _ _).trans (List.Perm.cons _ ?_)))))
  rw [List.append_assoc]
  exact List.perm_middle.symm
theorem gS_next {v9 v11 s : Value} {rq rn : List Value} {Q : List Wd} {N : List (List Nat)} {r : List Nat} (hl : rn.length = N.length) :
    ((s, 2, i64s (natsI r)) :: (v9, 26, rq) :: (v11, 26, rn ++ [s]) :: (rowG rq Q ++ rowG rn (N.map natsI))).Perm (gS v9 rq Q v11 (rn ++ [s]) (N ++ [r])) := by
  rw [gS, List.map_append, List.map_cons, List.map_nil, rowG_snoc s (natsI r) (by rw [hl, List.length_map])]
  refine (List.Perm.swap _ _ _).trans (List.Perm.cons _ ((List.Perm.swap _ _ _).trans (List.Perm.cons _ ?_)))
  rw [← List.append_assoc]
  exact (List.perm_append_singleton _ _).symm
theorem qRow_stop {m : Mch} {h : Wd} {Q : List Wd} {x : Nat} (hn : qRow m h x Q = none) : ∀ j, qRow m h (x + j) Q = none
  | 0 => hn
  | j + 1 => by rw [← Nat.add_assoc, qRow, qRow_stop hn j]

set_option maxRecDepth 100000 in
set_option maxHeartbeats 8000000 in
theorem sections_any (G : Nat) (m : Mch) (hwf : m.Wf) (hok : m.Ok) (want : Wd → Bool) (k : Nat) (hent : Enters k) (first cap : Array Value) (a : Option Addr) (g : Wd) (c : Nat) (hg : GW m g) (hl : g.length ≤ 1000) (w : World) (hG : GrpR w G m) (hI : IntsAt w a g)
    (hf : ∀ W, Below w.heap.size w W → ∀ (h : Wd) a c, GW m h → h.length ≤ 1000 → IntsAt W a h → Calls Try.prog k (first ++ #[.slice a h.length c] ++ cap) W (Ret (.bool (want h)) W)) :
    Calls Try.prog 100 #[.pointer (some ⟨G, 0, none⟩), .slice a g.length c, .func (.func k) first cap] w (RetSec (secR m want g) w) := by
  obtain ⟨i0, hi, hz0, hz1, hz2⟩ := info_parts Try.info2
  obtain ⟨j0, hJ, hy0, hy1, hy2⟩ := info_parts Try.info26
  have h3 := hok.l_le
  have HG := Lib.hid hG
  have HGW := Lib.hid hg
  have HF := Lib.hid hf
  have hent' : ∀ args w, Sem.run Try.prog (callFunc k args) w = .ok (.enter k args) w := hent
  have hmm := @run_makeMap Try.prog
  have hI0 := hI
  clear hG hg hf hI hent
  go_enter Try.func100, Try.ntmps100
  go_wp2_with fail
  refine (normal_any G m hwf hok a g c HGW.out hl _ HG.out hI0).mono ?_
  rintro e w1 ⟨v, rfl, hb1, hO1⟩
  have hM1 := ((Mm.start w).callOwn hb1 hO1 (by simp [i64s])).alloc #[v] 26
  have hM2 := hM1.addOwn (b := w1.heap.size) (cs := [v]) (T := 26) (by simp) 1 rfl (by omega)
  simp only [List.filter_cons, List.filter_nil, bne_self_eq_false, Bool.false_eq_true, if_false] at hM2
  have hMap := MapN.new (w1.alloc (.cells #[v] 26))
  rw [show (w1.alloc (.cells #[v] 26)).heap.size = w1.heap.size + 1 by simp] at hMap
  have hM3 := hM2.allocO (.map #[] 0)
  have hQ0 : MQ w.heap.size w ((w1.alloc (.cells #[v] 26)).alloc (.map #[] 0)) [(.slice (some ⟨w1.heap.size, 0, none⟩) 1 1, 26, [v]), (v, 2, i64s (nrm m g))] (w1.heap.size + 1) 0 (fun _ => none) := by
    refine ⟨hM3, hMap, by have := hb1.size; omega, fun x hx => ?_⟩
    simp only [List.mem_cons, List.not_mem_nil, or_false] at hx
    rcases hx with rfl | rfl
    · simp [Value.ownBlock]
    · intro e
      have := (World.ownsRow.lt hO1 _ e).2
      omega
  have HQ0 := Lib.hid hQ0
  have HN := Lib.hid hO1
  obtain ⟨av, cv, rfl, hIv⟩ := id hO1.form
  have hbA : Below w1.heap.size w1 ((w1.alloc (.cells #[.slice av (nrm m g).length cv] 26)).alloc (.map #[] 0)) := ((Below.refl _ _).alloc (Nat.le_refl _) _).alloc (by simp) _
  have HIV := Lib.hid (hIv.keep hbA)
  have hnl := nrm_len m g
  clear hM1 hM2 hM3 hMap hQ0 hO1 hI0 hIv
  go_wp2_with fail
  refine (key_any m hok av (nrm m g) cv (nrm_gw HGW.out) (by omega) _ HIV.out).mono ?_
  rintro e w2 ⟨rfl, hb2⟩
  have hQ1 := HQ0.out.call hb2
  obtain ⟨w3, hrun, hQ2⟩ := hQ1.put (by omega) (keyB (nrm m g)) 0 (by rw [keyB_size]; simp [maxLen]; omega) (by omega)
  rw [← fQ_one] at hQ2
  rw [show ((0 : Nat) : Int) = 0 from rfl] at hrun
  have HQ2 : Hid (MQ w.heap.size w w3 (gS (.slice (some ⟨w1.heap.size, 0, none⟩) 1 1) [.slice av (nrm m g).length cv] [nrm m g] (.slice none 0 0) [] []) (w1.heap.size + 1) [nrm m g].length (fQ [nrm m g])) :=
    (hQ2.addNil 26).perm (List.Perm.swap _ _ _)
  obtain ⟨b, hb⟩ : ∃ b, b = w1.heap.size + 1 := ⟨_, rfl⟩
  obtain ⟨b9, hb9⟩ : ∃ b9, b9 = w1.heap.size := ⟨_, rfl⟩
  rw [← hb] at hrun HQ2 ⊢
  rw [← hb9] at HQ2 ⊢
  clear hQ1 hQ2 HQ0 hb2 hmm hbA HIV hb hb9 HN hb1
  go_wp2_with fail
  clear hrun
  go_loopw [9, 11, 12] (fun v9 v11 i wr => ∃ (j : Nat) (rq rn : List Value) (Q : List Wd) (N : List (List Nat)), i = .int .i64 j ∧ j ≤ 200 ∧ MQ w.heap.size w wr (gS v9 rq Q v11 rn N) b Q.length (fQ Q) ∧ Hid (bSt m want g j = .ok (Q, N) ∧ rq.length = Q.length ∧ rn.length = N.length ∧ N.length = j)) (fun _ _ i _ => 200 - (intOf i).toNat)
  case atStart => exact ⟨0, [.slice av (nrm m g).length cv], [], [nrm m g], [], rfl, by omega, HQ2.out, rfl, rfl, rfl, rfl⟩
  case round =>
    clear HQ2
    obtain ⟨j, rq, rn, Q, N, rfl, hj, hQ, HB⟩ := hrel
    have hB := HB.out
    obtain ⟨hok1, hok2, -⟩ := bSt_ok hok hwf want HGW.out j hB.1
    have hmany := hok1.many
    have hrl := hB.2.1
    have ho := hQ.mm.own _ (List.mem_cons_self ..)
    simp only at ho
    obtain ⟨g9, c9, rfl, -, -, -⟩ := own_form ho (by rw [hrl]; have := hok1.pos; omega)
    rw [hrl] at ho hQ ⊢
    clear ho
    by_cases hlt : j < Q.length
    · have hNl : N.length < 200 := by have := hB.2.2.2; omega
      obtain ⟨g9', c9', a', d', e1, e2, e3⟩ := hQ.mm.readQ hrl (List.mem_cons_self ..) gS_rows hlt
      injection e1 with e1 _ e1'
      injection e1 with e1
      injection e1 with e1
      subst e1 e1'
      have hw' := hok1.toQOk.at hlt
      obtain ⟨hh, hhe⟩ : ∃ hh, hh = Q[j]?.getD [] := ⟨_, rfl⟩
      rw [← hhe] at e2 e3 hw'
      have HH := Lib.hid hhe
      have HCW := Lib.hid (HF.out wr hQ.mm.below hh a' d' hw'.1 (by omega) e3)
      have HBN : Hid (bSt m want g (j + 1) = if want hh = true then (match qRow m hh m.l Q with | none => .error 3 | some (Q', r) => .ok (Q', N ++ [r])) else .error 5) := by
        show _ = _; rw [bSt, hB.1]; simp only; rw [if_pos hlt, ← hhe]; rfl
      have i1 : (0 : Int) ≤ (j : Int) := by omega
      have i2 : (j : Int) < (Q.length : Int) := by omega
      have HNL := Lib.hid hNl
      clear hhe hB hw' hok1 hok2
      go_wp2_with fail
      refine HCW.out.mono ?_
      rintro e w4 ⟨rfl, hb4⟩
      have hQ4 := hQ.call hb4
      cases hwt : want hh
      · rw [hwt] at HBN
        simp only [Bool.false_eq_true, if_false] at HBN
        have HR : Hid (secR m want g = .error 5) := secR_err HBN.out (by omega)
        have hbl := hQ4.mm.below
        clear hwt HCW hQ hQ4 e3
        go_wp2_with fail
        go_ret3
        rw [HR.out]
        exact ⟨rfl, hbl⟩
      · rw [hwt] at HBN
        simp only [if_true] at HBN
        have cl := (HG.out.keep hQ4.mm.below).mach.l
        rw [hok.L_eq] at cl
        have HQ5 := Lib.hid (hQ4.addNil 2)
        clear hwt HCW hQ hQ4 e2 e3 hb4
        go_wp2_with fail
        clear cl
        obtain ⟨v9, hv9⟩ : ∃ v9, v9 = Value.slice (some ⟨g9, 0, none⟩) Q.length c9 := ⟨_, rfl⟩
        rw [← hv9] at HQ5 ⊢
        clear hv9
        obtain ⟨wo, rfl⟩ : ∃ wo : World, wo = w4 := ⟨_, rfl⟩
        go_loopw [9, 13, 47] (fun v9 v13 i wr => ∃ (x : Nat) (rq : List Value) (Q' : List Wd) (r : List Nat), i = .int .i64 x ∧ x ≤ m.l ∧ MQ w.heap.size w wr ((v13, 2, i64s (natsI r)) :: gS v9 rq Q' u11 rn N) b Q'.length (fQ Q') ∧ Hid (qRow m hh x Q = some (Q', r) ∧ rq.length = Q'.length)) (fun _ _ i _ => m.l - (intOf i).toNat)
        case atStart => exact ⟨0, rq, Q, [], rfl, Nat.zero_le _, HQ5.out, rfl, hrl⟩
        case round =>
          clear HQ5
          obtain ⟨x, rq, Q', r, rfl, hx, hQ, HR⟩ := hrel
          have hB := HB.out
          obtain ⟨hok1, -, -⟩ := bSt_ok hok hwf want HGW.out j hB.1
          have hw' := hok1.toQOk.at hlt
          rw [← HH.out] at hw'
          obtain ⟨hq1, hq2, hq3, hq4, hq5⟩ := QOk.row hok hwf hw'.1 hw'.2 hx hok1.toQOk HR.out.1
          have hrl' := HR.out.2
          have hmany' := hq1.many
          have hjl : j < Q'.length := by omega
          by_cases hxl : x < m.l
          · obtain ⟨g9, c9, a', d', rfl, e2, e3⟩ := hQ.mm.readQ hrl' (List.mem_cons_of_mem _ (List.mem_cons_self ..)) (fun y hy => List.mem_cons_of_mem _ (gS_rows y hy)) hjl
            rw [hq5 j hlt, ← HH.out] at e2 e3
            have HAT := Lib.hid (at_any G m hwf hok a' hh d' hw'.1 (by omega) x hxl wr (HG.out.keep hQ.mm.below) e3)
            have hsg := ledS_gw hok hwf hw'.1 hxl
            have hsl := ledS_len m hh x
            have hnn := nrm_len m (ledS m hh x)
            have hng := nrm_gw hsg
            have HNG := Lib.hid hng
            have HSG := Lib.hid hsg
            have HQ1 := Lib.hid hq1
            have i3 : (0 : Int) ≤ (x : Int) := by omega
            have i4 : (x : Int) < (m.l : Int) := by omega
            have i5 : (j : Int) < (Q'.length : Int) := by omega
            have hs1000 : (ledS m hh x).length ≤ 1000 := by omega
            have hn1000 : (nrm m (ledS m hh x)).length ≤ 1000 := by omega
            have HRS : Hid (qRow m hh (x + 1) Q = match qPut Q' (nrm m (ledS m hh x)) with | none => none | some (Q'', a) => some (Q'', r ++ [a])) := by
              show _ = _; rw [qRow, HR.out.1]; rfl
            clear hok1 hw' hq1 hq3 hq5 e3 hsg hsl hnn hng hB
            go_wp2_with fail
            refine HAT.out.mono ?_
            rintro e w5 ⟨v15, rfl, hb5, hO5⟩
            have hQ5 := hQ.call hb5
            obtain ⟨a15, c15, rfl, hI5⟩ := hO5.form
            have HI5 := Lib.hid hI5
            clear hO5 hI5 HAT hQ hb5
            go_wp2_with fail
            refine (normal_any G m hwf hok a15 (ledS m hh x) c15 HSG.out hs1000 _ (HG.out.keep hQ5.mm.below) HI5.out).mono ?_
            rintro e w6 ⟨v16, rfl, hb6, hO6⟩
            obtain ⟨S, hS⟩ : ∃ S, S = nrm m (ledS m hh x) := ⟨_, rfl⟩
            rw [← hS] at hO6 HRS HNG hn1000
            have hQ6 := hQ5.callOwn hb6 hO6 (by simp [i64s])
            obtain ⟨a16, c16, rfl, hI6⟩ := hO6.form
            have HI6 := Lib.hid hI6
            clear hO6 hI6 hQ5 hb6 hS
            go_wp2_with fail
            refine (key_any m hok a16 S c16 HNG.out hn1000 _ HI6.out).mono ?_
            rintro e w7 ⟨rfl, hb7⟩
            have HI7 := Lib.hid (HI6.out.keep hb7)
            have hQ7 := hQ6.call hb7
            have hks : (keyB S).size ≤ maxLen := by rw [keyB_size]; simp [maxLen]; omega
            have hlk := hQ7.map.look (keyB S) hks true
            have HKS := Lib.hid hks
            clear hQ6 HI6 hb7 hks
            by_cases hmem : S ∈ Q'
            · rw [fQ_mem hok HNG.out HQ1.out.gw hmem] at hlk
              simp only [if_true, Option.getD_some, Option.isSome_some] at hlk
              have HRX : Hid (qRow m hh (x + 1) Q = some (Q', r ++ [Q'.idxOf S])) := by show _ = _; rw [HRS.out, qPut, if_pos hmem]
              have hQ8 := hQ7.sub (List.sublist_cons_self _ _)
              have hrlen : (i64s (natsI r)).length ≤ 1000000 := by simp [i64s, natsI]; omega
              generalize Q'.idxOf S = I at *
              clear hmem HRS hQ7
              go_wp2_with (at_builtin; refine MQ.append rfl (.tmp 85) (.tmp 87) 26 rfl hQ8 0 rfl Try.underlying26 hi hz0 hz1 hz2 rfl rfl rfl rfl hrlen (by omega) ?_)
              intro g' cap' w8 hQ9
              have HQ9 : Hid (MQ w.heap.size w w8 ((.slice (some ⟨g', 0, none⟩) ((i64s (natsI r)).length + 1) cap', 2, i64s (natsI (r ++ [I]))) :: gS (.slice (some ⟨g9, 0, none⟩) Q'.length c9) rq Q' u11 rn N) b Q'.length (fQ Q')) := by
                show MQ _ _ _ _ _ _ _; simpa [i64s, natsI] using hQ9
              clear hQ8 hQ9 hlk
              go_wp2_with fail
              go_roundw
              case rel => exact ⟨x + 1, rq, Q', r ++ [I], by go_num, by omega, HQ9.out, HRX.out, hrl'⟩
              case measure => simp [intOf] <;> omega
            · rw [fQ_not hok HNG.out HQ1.out.gw hmem] at hlk
              simp only [if_true, Option.getD_none, Option.isSome_none] at hlk
              by_cases hfull : Q'.length = 200
              · have HRX : Hid (qRow m hh (x + 1) Q = none) := by show _ = _; rw [HRS.out, qPut, if_neg hmem, if_pos hfull]
                have HRR : Hid (secR m want g = .error 3) := by
                  have h1 := qRow_stop HRX.out (m.l - (x + 1))
                  rw [show x + 1 + (m.l - (x + 1)) = m.l by omega] at h1
                  have h2 := HBN.out
                  rw [h1] at h2
                  exact secR_err h2 (by have := HNL.out; omega)
                have hf2 : ((Q'.length : Int) == 200) = true := by simp; omega
                have hbl := hQ7.mm.below
                clear hmem HRS hQ7
                go_wp2_with fail
                go_ret3
                rw [HRR.out]
                exact ⟨rfl, hbl⟩
              · have HRX : Hid (qRow m hh (x + 1) Q = some (Q' ++ [S], r ++ [Q'.length])) := by show _ = _; rw [HRS.out, qPut, if_neg hmem, if_neg hfull]
                have hf2 : ((Q'.length : Int) == 200) = false := by simp; omega
                have HFQ := Lib.hid (fQ_snoc hok HNG.out HQ1.out.gw hmem)
                clear hmem HRS
                go_wp2_with fail
                refine (key_any m hok a16 S c16 HNG.out hn1000 _ HI7.out).mono ?_
                rintro e w8 ⟨rfl, hb8⟩
                have hQ8 := hQ7.call hb8
                obtain ⟨w9, hrun, hQ9⟩ := hQ8.put (by omega) (keyB S) Q'.length HKS.out (by omega)
                rw [← HFQ.out] at hQ9
                have HQ9 : Hid (MQ w.heap.size w w9 ((.slice a16 S.length c16, 2, i64s S) :: (u13, 2, i64s (natsI r)) :: (.slice (some ⟨g9, 0, none⟩) Q'.length c9, 26, rq) :: (u11, 26, rn) :: (rowG rq Q' ++ rowG rn (N.map natsI))) b (Q'.length + 1) (fQ (Q' ++ [S]))) := hQ9
                have hrq : rq.length ≤ 1000000 := by omega
                clear hQ8 hQ7 hQ9 hb8 hlk
                go_wp2_with (at_builtin; refine MQ.append rfl (.tmp 81) (.tmp 83) 35 rfl HQ9.out 2 rfl Try.underlying35 hJ hy0 hy1 hy2 rfl rfl rfl rfl hrq (by omega) ?_)
                intro g' cap' w10 hQ10
                have hQ11 : MQ w.heap.size w w10 ((u13, 2, i64s (natsI r)) :: gS (.slice (some ⟨g', 0, none⟩) (Q'.length + 1) cap') (rq ++ [.slice a16 S.length c16]) (Q' ++ [S]) u11 rn N) b (Q'.length + 1) (fQ (Q' ++ [S])) :=
                  hQ10.perm (gS_queue (v := .slice none 0 0) (X := (u13, 2, i64s (natsI r))) (g := S) hrl')
                have hrlen : (i64s (natsI r)).length ≤ 1000000 := by simp [i64s, natsI]; omega
                have hlq : (rq ++ [Value.slice a16 S.length c16]).length = (Q' ++ [S]).length := by simp [hrl']
                have HLQ := Lib.hid hlq
                clear hQ10 HQ9 hrun hlq
                go_wp2_with (at_builtin; refine MQ.append rfl (.tmp 85) (.tmp 87) 26 rfl hQ11 0 rfl Try.underlying26 hi hz0 hz1 hz2 rfl rfl rfl rfl hrlen (by omega) ?_)
                intro g2 cap2 w12 hQ12
                have HQ12 : Hid (MQ w.heap.size w w12 ((.slice (some ⟨g2, 0, none⟩) ((i64s (natsI r)).length + 1) cap2, 2, i64s (natsI (r ++ [Q'.length]))) :: gS (.slice (some ⟨g', 0, none⟩) (Q'.length + 1) cap') (rq ++ [.slice a16 S.length c16]) (Q' ++ [S]) u11 rn N) b (Q' ++ [S]).length (fQ (Q' ++ [S]))) := by
                  show MQ _ _ _ _ _ _ _; simpa [i64s, natsI] using hQ12
                clear hQ11 hQ12
                go_wp2_with fail
                go_roundw
                case rel => exact ⟨x + 1, _, Q' ++ [S], r ++ [Q'.length], by go_num, by omega, HQ12.out, HRX.out, HLQ.out⟩
                case measure => simp [intOf] <;> omega
          · have hx' : x = m.l := by omega
            subst hx'
            have HBX : Hid (bSt m want g (j + 1) = .ok (Q', N ++ [r])) := by
              show _ = _; rw [HBN.out, HR.out.1]
            have hQ8 : MQ w.heap.size w wr ((u13, 2, i64s (natsI r)) :: (u9, 26, rq) :: (u11, 26, rn) :: (rowG rq Q' ++ rowG rn (N.map natsI))) b Q'.length (fQ Q') := hQ
            have hrn : rn.length ≤ 1000000 := by have := HB.out.2.2.1; have := HNL.out; omega
            have HLN := Lib.hid HB.out.2.2
            obtain ⟨a13, c13, rfl⟩ : ∃ a13 c13, u13 = .slice a13 (natsI r).length c13 := by
              obtain ⟨a13, c13, e13, -⟩ := (OwnI.of_row (hQ.mm.own _ (List.mem_cons_self ..))).form
              exact ⟨_, _, e13⟩
            clear hq1 hq2 hq3 hq4 hq5 hw' hok1 hB hQ
            go_wp2_with (at_builtin; refine MQ.append rfl (.tmp 90) (.tmp 92) 35 rfl hQ8 2 rfl Try.underlying35 hJ hy0 hy1 hy2 rfl rfl rfl rfl hrn (by omega) ?_)
            intro g' cap' w10 hQ10
            have HQ10 : Hid (MQ w.heap.size w w10 (gS u9 rq Q' (.slice (some ⟨g', 0, none⟩) (rn.length + 1) cap') (rn ++ [.slice a13 (natsI r).length c13]) (N ++ [r])) b Q'.length (fQ Q')) := hQ10.perm (gS_next HLN.out.1)
            clear hQ8 hQ10
            go_wp2_with fail
            go_roundw
            case rel => exact ⟨j + 1, rq, _, Q', N ++ [r], by go_num, by omega, HQ10.out, HBX.out, hrl', by simp [HLN.out.1], by simp [HLN.out.2]⟩
            case measure => simp [intOf] <;> omega
    · have HR : Hid (secR m want g = .ok (Q, N)) := secR_end hB.1 (by omega) hj
      have HL := Lib.hid hB.2
      have hmm := hQ.mm
      have HMM := Lib.hid hmm
      clear hB hok1 hok2 hQ hmm
      go_wp2_with fail
      go_ret3
      rw [HR.out]
      exact ⟨_, rq, _, rn, rfl, HL.out.1, HL.out.2.1, HMM.out⟩
end Go.Proofs.Yteagecoiijhflaa

/- Equal machines; group words of the reference and of the program. -/
namespace Go.Proofs.Yteagecoiijhflaa
open Go.RowKit
set_option linter.unusedVariables false
set_option linter.unusedSimpArgs false

theorem MAt.rangeN {w : World} {b o : Nat} {m : Mch} (h : MAt w b o m) (hw : m.Wf) : w.rangeAt b (o + 2) (u8s m.N) := fun j v hv => by
  have hj : j < m.N.length := by have := (List.getElem?_eq_some_iff.1 hv).1; simpa [u8s] using this
  rw [Nat.add_assoc]
  refine h (2 + j) v ?_
  simp only [Mch.cells]
  rw [show 2 + j = j + 1 + 1 by omega, List.getElem?_cons_succ, List.getElem?_cons_succ, List.getElem?_map, List.getElem?_append_left hj, ← List.getElem?_map]
  exact hv
theorem MAt.rangeO {w : World} {b o : Nat} {m : Mch} (h : MAt w b o m) (hw : m.Wf) : w.rangeAt b (o + 50) (u8s m.O) := fun j v hv => by
  have hj : j < m.O.length := by have := (List.getElem?_eq_some_iff.1 hv).1; simpa [u8s] using this
  have e := hw.nl
  rw [Nat.add_assoc]
  refine h (50 + j) v ?_
  simp only [Mch.cells]
  rw [show 50 + j = (48 + j) + 1 + 1 by omega, List.getElem?_cons_succ, List.getElem?_cons_succ, List.getElem?_map, List.getElem?_append_right (by omega), show 48 + j - m.N.length = j by omega, ← List.getElem?_map]
  exact hv

/-- a number that stands for a state; a list of them -/
def numB (m : Mch) (k : Int) : Bool := !(k == 0) && inR k (-m.S) m.S
def gwB (m : Mch) (xs : List Int) : Bool := decide (xs.length ≤ 40) && xs.all (numB m)
theorem all_from {p : Int → Bool} {xs : List Int} {k : Nat} (hk : k < xs.length) (h : p (xs[k]?.getD 0) = false) : xs.all p = false := by
  rw [List.all_eq_false]
  rw [List.getElem?_eq_getElem hk, Option.getD_some] at h
  exact ⟨xs[k], List.getElem_mem hk, by simp [h]⟩
theorem all_upto {p : Int → Bool} {xs : List Int} (h : ∀ j, j < xs.length → p (xs[j]?.getD 0) = true) : xs.all p = true := by
  rw [List.all_eq_true]
  intro x hx
  obtain ⟨j, hj, rfl⟩ := List.mem_iff_getElem.1 hx
  have := h j hj
  rwa [List.getElem?_eq_getElem hj, Option.getD_some] at this

set_option maxRecDepth 100000 in
set_option maxHeartbeats 1000000 in
theorem l02Numbers_any (m : Mch) (hwf : m.Wf) (hok : m.Ok) (a : Option Addr) (xs : List Int) (c : Nat) (hx : xs.length ≤ 1100000) (w : World) (hI : IntsAt w a xs) :
    Calls Try.prog 121 #[.agg m.cells.toArray, .slice a xs.length c] w (Ret (.bool (xs.all (numB m))) w) := by
  have hm := MAt.boxed w m 29
  have hb0 := boxedBelow w m.cells.toArray 29
  have HI := Lib.hid hI
  have h1 := hok.s1
  have h2 := hok.s16
  clear hI
  go_enter Try.func121, Try.ntmps121
  go_wp2
  go_loopw [5] (fun i wr => ∃ k : Nat, k ≤ xs.length ∧ i = .int .i64 k ∧ MAt wr w.heap.size 0 m ∧ Below w.heap.size w wr ∧ Hid (∀ j, j < k → numB m (xs[j]?.getD 0) = true)) (fun i _ => xs.length - (intOf i).toNat)
  case atStart => exact ⟨0, by omega, rfl, hm, hb0, fun j hj => by omega⟩
  case round =>
    clear hm hb0
    obtain ⟨k, hk, rfl, hm, hb, HA⟩ := hrel
    by_cases hlt : k < xs.length
    · obtain ⟨g, off, rfl, hc⟩ := HI.out k hlt
      rw [← hb.cell (p := ⟨g, off + k, none⟩) (World.block_lt_of_cell? w _ hc)] at hc
      have hs := hm.s
      have i1 : (0 : Int) ≤ (k : Int) := by omega
      have i2 : (k : Int) < (xs.length : Int) := by omega
      obtain ⟨x, hx'⟩ : ∃ x, x = xs[k]?.getD 0 := ⟨_, rfl⟩
      rw [← hx'] at hc
      have HXX := Lib.hid hx'
      clear hx'
      by_cases hz : x = 0
      · have HF : Hid (xs.all (numB m) = false) := all_from hlt (by rw [← HXX.out, hz]; rfl)
        have hz' : (x == 0) = true := by simpa using hz
        clear hz
        go_wp2
        go_quiet (fail)
        go_wp2
        go_ret
        exact ⟨ret_bool HF.out.symm, below_dN hb _⟩
      · have hz' : (x == 0) = false := by simpa using hz
        clear hz
        cases hr : inR x (-m.S) m.S
        · have HF : Hid (xs.all (numB m) = false) := all_from hlt (by rw [← HXX.out]; simp [numB, hr])
          go_wp2
          go_quiet ((go_at_call 54; exact Calls.quiet_of_same ((l01In_any _ _ _ _).mono fun _ _ h => ⟨h.1, h.2.symm⟩)))
          go_wp2
          go_ret
          exact ⟨ret_bool HF.out.symm, below_dN hb _⟩
        · have HN : Hid (∀ j, j < k + 1 → numB m (xs[j]?.getD 0) = true) := fun j hj => by
            by_cases e : j = k
            · subst e; rw [← HXX.out]; simp only [numB, hz', hr]; rfl
            · exact HA.out j (by omega)
          have hmd := hm.drewN 1
          have hbd := below_dN hb 1
          go_wp2
          go_quiet ((go_at_call 54; exact Calls.quiet_of_same ((l01In_any _ _ _ _).mono fun _ _ h => ⟨h.1, h.2.symm⟩)))
          go_wp2
          go_roundw
          case rel => exact ⟨k + 1, by omega, by go_num, hm.drewN _, below_dN hb _, HN⟩
          case measure => simp [intOf]; omega
    · have HF : Hid (xs.all (numB m) = true) := all_upto fun j hj => HA.out j (by omega)
      go_wp2
      go_ret
      exact ⟨ret_bool HF.out.symm, hb⟩

set_option maxRecDepth 100000 in
set_option maxHeartbeats 1000000 in
theorem l02Is_any (m : Mch) (hwf : m.Wf) (hok : m.Ok) (a : Option Addr) (xs : List Int) (c : Nat) (hx : xs.length ≤ 1100000) (w : World) (hI : IntsAt w a xs) :
    Calls Try.prog 84 #[.agg m.cells.toArray, .slice a xs.length c] w (Ret (.bool (gwB m xs)) w) := by
  have hm := MAt.boxed w m 29
  have hb0 := boxedBelow w m.cells.toArray 29
  have HI := Lib.hid (hI.keep hb0)
  have HO := Lib.hid hok
  clear hI hok
  go_enter Try.func84, Try.ntmps84
  by_cases h : xs.length ≤ 40
  · have HF : Hid (gwB m xs = xs.all (numB m)) := by show _ = _; simp [gwB, h]
    have h' : ¬ (40 : Int) < xs.length := by omega
    go_wp2_with ((with_reducible refine ld_mach ?_ (.tmp 2) ?_ (w.heap.size) (0) ?_ m hm hwf ?_); exact rfl; exact rfl; exact rfl)
    refine (l02Numbers_any m hwf HO.out a xs c hx _ HI.out).mono ?_
    rintro e w1 ⟨rfl, hb1⟩
    rw [← HF.out]
    have hbb := hb0.trans (hb1.mono hb0.size)
    go_wp2_with fail
    go_ret
    exact ⟨rfl, hbb⟩
  · have HF : Hid (gwB m xs = false) := by show _ = _; simp [gwB, h]
    have h' : (40 : Int) < xs.length := by omega
    go_wp2_with fail
    go_ret
    exact ⟨ret_bool HF.out.symm, hb0⟩

theorem enters_isGW : Enters 127 := fun args w => by kernel_rfl
set_option maxHeartbeats 1000000 in
theorem isGW1_any (m : Mch) (hwf : m.Wf) (hok : m.Ok) (b o : Nat) (x : Int) (w : World) (hm : MAt w b o m) :
    Calls Try.prog 127 #[.int .i64 x, .pointer (some ⟨b, o, none⟩)] w fun e w' => e = .returned (.bool (!numB m x)) ∧ w = w' := by
  have hs := hm.s
  have h1 := hok.s1
  have h2 := hok.s16
  go_enter Try.func127, Try.ntmps127
  by_cases hz : x = 0
  · have HF : Hid ((!numB m x) = true) := by show _ = _; rw [hz]; rfl
    have hz' : (x == 0) = true := by simpa using hz
    clear hz
    go_wp2_with fail
    go_ret
    exact ⟨ret_bool HF.out.symm, rfl⟩
  · have hz' : (x == 0) = false := by simpa using hz
    have HF : Hid ((!numB m x) = !inR x (-m.S) m.S) := by show _ = _; simp only [numB, hz']; simp
    clear hz
    go_wp2_with (go_at_call 59; refine (within_any _ _ _ _).mono ?_; rintro e w' ⟨rfl, rfl⟩)
    go_ret
    exact ⟨ret_bool HF.out.symm, rfl⟩
end Go.Proofs.Yteagecoiijhflaa

/- IsGroupWord; desks: sizes, copies, comparisons; IsDesk of both sides. -/
namespace Go.Proofs.Yteagecoiijhflaa
open Go.RowKit
set_option linter.unusedVariables false
set_option linter.unusedSimpArgs false

/-- a group word of a machine -/
def gwP (m : Mch) (xs : List Int) : Bool := machP m && gwB m xs

set_option maxRecDepth 100000 in
set_option maxHeartbeats 1000000 in
theorem IsGroupWord_any (m : Mch) (hwf : m.Wf) (a : Option Addr) (xs : List Int) (c : Nat) (hx : xs.length ≤ 1100000) (w : World) (hI : IntsAt w a xs) :
    Calls Try.prog 94 #[.agg m.cells.toArray, .slice a xs.length c] w (Ret (.bool (gwP m xs)) w) := by
  have hm := MAt.boxed w m 29
  have hb0 := boxedBelow w m.cells.toArray 29
  have hmf : ∀ (fn : Fn) (first cap : Array Value) (w : World), (Instr.makeFunc fn first cap).run Try.prog w = .ok (.func fn first cap) w := fun _ _ _ _ => rfl
  have HI := Lib.hid hI
  clear hI
  go_enter Try.func94, Try.ntmps94
  go_wp2_with ((with_reducible refine ld_mach ?_ (.tmp 2) ?_ (w.heap.size) (0) ?_ m hm hwf ?_); exact rfl; exact rfl; exact rfl)
  refine (IsMachine_any m hwf _).mono ?_
  rintro e w1 ⟨rfl, hb1⟩
  have hm1 := hm.keep hb1 hwf
  have hbb := hb0.trans (hb1.mono hb0.size)
  by_cases c1 : machP m = true
  · have hok := mach_ok c1
    rw [c1]
    by_cases h : xs.length ≤ 40
    · have HF : Hid (gwP m xs = !xs.any (fun x => !numB m x)) := by
        show _ = _
        simp only [gwP, gwB, c1, h, decide_true, Bool.true_and]
        rw [List.all_eq_not_any_not]
      have h' : (xs.length : Int) ≤ 40 := by omega
      go_wp2_with fail
      refine (containsFuncI_any _ enters_isGW #[.pointer (some ⟨w.heap.size, 0, none⟩)] a xs c (by omega) (fun x => !numB m x) w1 (fun w' => w' = w1) rfl (fun w' h => by rw [h]; exact HI.out.below hbb) (fun w' h i hi => by rw [h]; exact (isGW1_any m hwf hok w.heap.size 0 _ w1 hm1).mono fun e w'' ⟨he, hw⟩ => ⟨he, hw.symm⟩)).mono ?_
      rintro e w2 ⟨rfl, rfl⟩
      cases hb : xs.any (fun x => !numB m x)
      · rw [hb] at HF
        clear hb hmf
        go_wp2_with fail
        go_ret
        exact ⟨ret_bool HF.out.symm, hbb⟩
      · rw [hb] at HF
        clear hb hmf
        go_wp2_with fail
        go_ret
        exact ⟨ret_bool HF.out.symm, hbb⟩
    · have HF : Hid (gwP m xs = false) := by show _ = _; simp [gwP, gwB, h]
      have h' : ¬ (xs.length : Int) ≤ 40 := by omega
      go_wp2_with fail
      go_ret
      exact ⟨ret_bool HF.out.symm, hbb⟩
  · have HF : Hid (gwP m xs = false) := by show _ = _; simp [gwP, c1]
    have c1' : machP m = false := by simpa using c1
    clear c1
    rw [c1']
    go_wp2_with fail
    go_ret
    exact ⟨ret_bool HF.out.symm, hbb⟩

/-! Desks -/
def dcells (m : Mch) (u v : Value) : List Value := m.cells ++ [u, v]
theorem dcells_length {m : Mch} (h : m.Wf) (u v : Value) : (dcells m u v).length = 100 := by simp [dcells, Mch.cells_length h]
/-- a desk lies at block b from 0 on -/
def DAt (w : World) (b : Nat) (m : Mch) (u v : Value) : Prop := w.rangeAt b 0 (dcells m u v)
theorem DAt.mach {w : World} {b : Nat} {m : Mch} {u v : Value} (h : DAt w b m u v) : MAt w b 0 m := fun j x hj => h j x (by
  have : j < m.cells.length := (List.getElem?_eq_some_iff.1 hj).1
  rw [dcells, List.getElem?_append_left this]; exact hj)
theorem DAt.fst {w : World} {b : Nat} {m : Mch} {u v : Value} (h : DAt w b m u v) (hw : m.Wf) : w.cell? ⟨b, 98, none⟩ = some u := by
  have := h 98 u (by rw [dcells, List.getElem?_append_right (by rw [Mch.cells_length hw]; omega), Mch.cells_length hw]; rfl)
  simpa using this
theorem DAt.snd {w : World} {b : Nat} {m : Mch} {u v : Value} (h : DAt w b m u v) (hw : m.Wf) : w.cell? ⟨b, 99, none⟩ = some v := by
  have := h 99 v (by rw [dcells, List.getElem?_append_right (by rw [Mch.cells_length hw]; omega), Mch.cells_length hw]; rfl)
  simpa using this
theorem DAt.boxed (w : World) (m : Mch) (u v : Value) (T : Nat) : DAt (w.alloc (.cells (dcells m u v).toArray T)) w.heap.size m u v := fun j x hj => by
  rw [World.cell?_alloc_at _ _ _ _ rfl]; simpa using hj
theorem DAt.below {w w' : World} {b : Nat} {m : Mch} {u v : Value} (h : DAt w b m u v) {B : Nat} (hb : Below B w w') (hlt : b < B) : DAt w' b m u v :=
  fun j x hj => (hb.cell (p := ⟨b, 0 + j, none⟩) hlt).trans (h j x hj)
theorem DAt.drewN {w : World} {b : Nat} {m : Mch} {u v : Value} (h : DAt w b m u v) (n : Nat) : DAt (w.drewN n) b m u v := h

/-- a slice value of numbers that reads as xs -/
def SlI (w : World) (v : Value) (xs : List Int) : Prop := ∃ a c, v = .slice a xs.length c ∧ IntsAt w a xs
theorem SlI.below {w w' : World} {v : Value} {xs : List Int} (h : SlI w v xs) (hb : Below w.heap.size w w') : SlI w' v xs := by
  obtain ⟨a, c, rfl, hI⟩ := h
  exact ⟨a, c, rfl, hI.keep hb⟩

end Go.Proofs.Yteagecoiijhflaa

/- isTrivial, groupOf, DoRelationsHold of the program. -/
namespace Go.Proofs.Yteagecoiijhflaa
open Go.RowKit
set_option linter.unusedVariables false
set_option linter.unusedSimpArgs false

theorem qRow_code {m : Mch} {want : Wd → Bool} {g : Wd} : ∀ {i : Nat} {c : Int}, bSt m want g i = .error c → c = 5 ∨ c = 3
  | 0, c, h => by cases h
  | i + 1, c, h => by
    rw [bSt] at h
    cases h1 : bSt m want g i with
    | error d =>
      rw [h1] at h
      simp only at h
      injection h with h
      subst h
      exact qRow_code h1
    | ok p =>
      obtain ⟨Q, N⟩ := p
      rw [h1] at h
      simp only at h
      split at h
      · split at h
        · split at h
          · injection h with h; exact .inr h.symm
          · cases h
        · injection h with h; exact .inl h.symm
      · cases h
theorem trvR_ok {m : Mch} {g : Wd} {p : List Wd × List (List Nat)} (h : secR m (leavesB m) g = .ok p) : trvR m g = (true, 0) := congrArg trvOf h
theorem trvR_five {m : Mch} {g : Wd} (h : secR m (leavesB m) g = .error 5) : trvR m g = (false, 0) := congrArg trvOf h
theorem trvR_three {m : Mch} {g : Wd} (h : secR m (leavesB m) g = .error 3) : trvR m g = (false, 3) := congrArg trvOf h
theorem enters_leaves : Enters 101 := fun args w => by kernel_rfl

set_option maxRecDepth 100000 in
set_option maxHeartbeats 2000000 in
theorem isTrivial_any (G : Nat) (m : Mch) (hwf : m.Wf) (hok : m.Ok) (a : Option Addr) (g : Wd) (c : Nat) (hg : GW m g) (hl : g.length ≤ 1000) (w : World) (hG : GrpR w G m) (hI : IntsAt w a g) :
    Calls Try.prog 63 #[.pointer (some ⟨G, 0, none⟩), .slice a g.length c] w (Ret (.tuple #[.bool (trvR m g).1, .int .i64 (trvR m g).2]) w) := by
  have hmf : ∀ (fn : Fn) (first cap : Array Value) (w : World), (Instr.makeFunc fn first cap).run Try.prog w = .ok (.func fn first cap) w := fun _ _ _ _ => rfl
  have HG := Lib.hid hG
  have HS := Lib.hid (sections_any G m hwf hok (leavesB m) 101 enters_leaves #[.pointer (some ⟨G, 0, none⟩)] #[] a g c hg hl w hG hI (fun W hW h a c hh hl hI => by
    have := leaves_any G m hwf hok a h c hh hl W (hG.keep hW) hI
    simpa using this))
  clear hG hI
  go_enter Try.func63, Try.ntmps63
  go_wp2_with fail
  refine HS.out.mono ?_
  intro e w1 hR
  cases hs : secR m (leavesB m) g with
  | error c =>
    rw [hs] at hR
    obtain ⟨rfl, hb⟩ := hR
    rcases qRow_code hs with rfl | rfl
    · have HT := Lib.hid (trvR_five hs)
      clear hmf HS
      go_wp2_with fail
      go_ret2
      rw [HT.out]
      exact ⟨rfl, hb⟩
    · have HT := Lib.hid (trvR_three hs)
      clear hmf HS
      go_wp2_with fail
      go_ret2
      rw [HT.out]
      exact ⟨rfl, hb⟩
  | ok p =>
    obtain ⟨Q, N⟩ := p
    rw [hs] at hR
    obtain ⟨v9, rq, v11, rn, rfl, -, -, hM⟩ := hR
    have HT := Lib.hid (trvR_ok hs)
    have hb := hM.below
    clear hmf HS hM
    go_wp2_with fail
    go_ret2
    rw [HT.out]
    exact ⟨rfl, hb⟩

theorem gwP_gw {m : Mch} {g : Wd} (h : gwP m g = true) : m.Ok ∧ GW m g ∧ g.length ≤ 40 := by
  simp only [gwP, Bool.and_eq_true] at h
  have hok := mach_ok h.1
  simp only [gwB, Bool.and_eq_true, decide_eq_true_eq, List.all_eq_true] at h
  refine ⟨hok, fun k hk => ?_, h.2.1⟩
  have := h.2.2 k hk
  simp only [numB, inR, Bool.and_eq_true, decide_eq_true_eq, Bool.not_eq_true', beq_eq_false_iff_ne] at this
  rw [hok.S_eq] at this
  exact ⟨this.1, this.2.1, this.2.2⟩

set_option maxRecDepth 100000 in
set_option maxHeartbeats 1000000 in
theorem indexFuncB_any (k : Nat) (hent : Enters k) (cap : Array Value) (a : Option Addr) (n c : Nat) (hn : n ≤ 2000000) (rv : Nat → Value) (p : Nat → Bool) (w : World) (hc : ∀ i, i < n → ∃ b off, a = some ⟨b, off, none⟩ ∧ w.cell? ⟨b, off + i, none⟩ = some (rv i))
    (hf : ∀ W, Below w.heap.size w W → ∀ i, i < n → Calls Try.prog k (#[rv i] ++ cap) W (Ret (.bool (p i)) W)) :
    Calls Try.prog 125 #[.slice a n c, .func (.func k) #[] cap] w (Ret (.int .i64 (idxN p n)) w) := by
  have hent' : ∀ args w, Sem.run Try.prog (callFunc k args) w = .ok (.enter k args) w := hent
  have HC := Lib.hid hc
  have HF := Lib.hid hf
  clear hc hf hent
  go_enter Try.func125, Try.ntmps125
  go_wp2_with fail
  go_loopw [4, 8] (fun r i wr => ∃ j : Nat, j ≤ n ∧ i = .int .i64 j ∧ r = .int .i64 0 ∧ Below w.heap.size w wr ∧ Hid (∀ i, i < j → p i = false)) (fun _ i _ => n - (intOf i).toNat)
  case atStart => exact ⟨0, Nat.zero_le _, rfl, rfl, Below.refl _ _, fun i h => by omega⟩
  case round =>
    obtain ⟨j, hj, rfl, rfl, hb, HI⟩ := hrel
    by_cases hlt : j < n
    · obtain ⟨b, off, rfl, e1⟩ := HC.out j hlt
      have e1 := (hb.cell (World.block_lt_of_cell? w _ e1)).trans e1
      have HK := Lib.hid (HF.out wr hb j hlt)
      have i1 : (0 : Int) ≤ (j : Int) := by omega
      have i2 : (j : Int) < (n : Int) := by omega
      generalize rv j = v at *
      go_wp2_with fail
      refine HK.out.mono ?_
      rintro e w1 ⟨rfl, hb1⟩
      have hbb := hb.trans (hb1.mono hb.size)
      cases hp : p j
      · have HN : Hid (∀ i, i < j + 1 → p i = false) := fun i h => by
          by_cases e : i = j
          · subst e; exact hp
          · exact HI.out i (by omega)
        clear hp HK
        go_wp2_with fail
        go_roundw
        case rel => exact ⟨j + 1, by omega, by go_num, rfl, hbb, HN⟩
        case measure => simp [intOf] <;> omega
      · have HN : Hid (idxN p n = (j : Int)) := idxN_hit hlt hp HI.out
        clear hp HK
        go_wp2_with fail
        go_ret
        exact ⟨ret_int HN.out.symm, hbb⟩
    · have HN : Hid (idxN p n = -1) := idxN_none (fun i hi => HI.out i (by omega))
      go_wp2_with fail
      go_ret
      exact ⟨ret_int HN.out.symm, hb⟩
theorem idxN_any (p : Nat → Bool) (n : Nat) : decide (0 ≤ idxN p n) = (List.range n).any p := by
  cases h : (List.range n).any p
  · have : ∀ i, i < n → p i = false := fun i hi => by
      rw [List.any_eq_false] at h
      simpa using h i (by simpa using hi)
    rw [idxN_none this]; rfl
  · rw [List.any_eq_true] at h
    obtain ⟨i, hi, hp⟩ := h
    have hi' : i < n := by simpa using hi
    obtain ⟨j, hj, hpj, hmin⟩ : ∃ j, j < n ∧ p j = true ∧ ∀ i, i < j → p i = false := by
      clear hi
      induction i using Nat.strongRecOn with
      | ind i ih =>
        by_cases hh : ∀ k, k < i → p k = false
        · exact ⟨i, hi', hp, hh⟩
        · have : ∃ k, k < i ∧ p k = true := by
            refine Classical.byContradiction fun hn => hh fun k hk => ?_
            cases hpk : p k
            · rfl
            · exact absurd ⟨k, hk, hpk⟩ hn
          obtain ⟨k, hk, hpk⟩ := this
          exact ih k hk hpk (by omega)
    rw [idxN_hit hj hpj hmin]
    simp

set_option maxRecDepth 100000 in
set_option maxHeartbeats 1000000 in
theorem containsFuncB_any (k : Nat) (hent : Enters k) (cap : Array Value) (a : Option Addr) (n c : Nat) (hn : n ≤ 2000000) (rv : Nat → Value) (p : Nat → Bool) (w : World) (hc : ∀ i, i < n → ∃ b off, a = some ⟨b, off, none⟩ ∧ w.cell? ⟨b, off + i, none⟩ = some (rv i))
    (hf : ∀ W, Below w.heap.size w W → ∀ i, i < n → Calls Try.prog k (#[rv i] ++ cap) W (Ret (.bool (p i)) W)) :
    Calls Try.prog 92 #[.slice a n c, .func (.func k) #[] cap] w (Ret (.bool ((List.range n).any p)) w) := by
  have HI := Lib.hid (indexFuncB_any k hent cap a n c hn rv p w hc hf)
  have HA := Lib.hid (idxN_any p n)
  clear hc hf hent
  go_enter Try.func92, Try.ntmps92
  go_wp2_with fail
  refine HI.out.mono ?_
  rintro e w1 ⟨rfl, hb1⟩
  clear HI
  generalize idxN p n = I at *
  go_wp2_with fail
  go_ret
  exact ⟨ret_bool HA.out, hb1⟩

/-- the words of a list are words of a machine -/
def gwsB (m : Mch) (rows : List Wd) : Bool := machP m && rows.all (gwB m)
theorem gwsB_any {m : Mch} (h : machP m = true) (rows : List Wd) : ((List.range rows.length).any fun i => !gwP m (rows[i]?.getD [])) = !gwsB m rows := by
  simp only [gwsB, gwP, h, Bool.true_and]
  rw [Bool.eq_iff_iff, List.any_eq_true, Bool.not_eq_true', List.all_eq_false]
  constructor
  · rintro ⟨i, hi, h⟩
    have hi' : i < rows.length := by simpa using hi
    rw [List.getElem?_eq_getElem hi'] at h
    exact ⟨rows[i], List.getElem_mem hi', by simpa using h⟩
  · rintro ⟨r, hr, h⟩
    obtain ⟨i, hi, rfl⟩ := List.getElem_of_mem hr
    exact ⟨i, by simpa using hi, by rw [List.getElem?_eq_getElem hi]; simpa using h⟩
theorem enters_groupOf : Enters 93 := fun args w => by kernel_rfl
theorem groupOf1_any (b : Nat) (m : Mch) (hwf : m.Wf) (a : Option Addr) (g : Wd) (c : Nat) (hl : g.length ≤ 1100000) (w : World) (hm : MAt w b 0 m) (hI : IntsAt w a g) :
    Calls Try.prog 93 #[.slice a g.length c, .pointer (some ⟨b, 0, none⟩)] w (Ret (.bool (!gwP m g)) w) := by
  go_enter Try.func93, Try.ntmps93
  go_wp2_with ((with_reducible refine ld_mach ?_ (.tmp 1) ?_ (b) (0) ?_ m hm hwf ?_); exact rfl; exact rfl; exact rfl)
  refine (IsGroupWord_any m hwf a g c hl _ hI).mono ?_
  rintro e w1 ⟨rfl, hb1⟩
  go_wp2_with fail
  go_ret
  exact ⟨rfl, hb1⟩

/-- a group and a code -/
def RetGr (m : Mch) (ok : Bool) (w : World) (e : Ending) (w' : World) : Prop :=
  match ok with
  | true => ∃ G, e = .returned (.tuple #[.pointer (some ⟨G, 0, none⟩), .int .i64 0]) ∧ Below w.heap.size w w' ∧ GrpR w' G m
  | false => e = .returned (.tuple #[.pointer none, .int .i64 1]) ∧ Below w.heap.size w w'

set_option maxRecDepth 100000 in
set_option maxHeartbeats 2000000 in
theorem groupOf_any (m : Mch) (hwf : m.Wf) (v : Value) (rows : List Wd) (hn : rows.length ≤ 1100000) (hx : ∀ i : Nat, (rows[i]?.getD []).length ≤ 1100000) (w : World) (hS : SlII w v rows) :
    Calls Try.prog 58 #[.agg m.cells.toArray, v] w (RetGr m (gwsB m rows) w) := by
  have hmf : ∀ (fn : Fn) (first cap : Array Value) (w : World), (Instr.makeFunc fn first cap).run Try.prog w = .ok (.func fn first cap) w := fun _ _ _ _ => rfl
  obtain ⟨a, c, rfl, hc⟩ := hS
  have HC := Lib.hid hc
  have HX := Lib.hid hx
  have hm := MAt.boxed w m 29
  have hb0 := boxedBelow w m.cells.toArray 29
  clear hc hx
  go_enter Try.func58, Try.ntmps58
  by_cases c1 : machP m = true
  · have hok := mach_ok c1
    have HW := Lib.hid (gwsB_any c1 rows)
    go_wp2_with ((with_reducible refine ld_mach ?_ (.tmp 2) ?_ (w.heap.size) (0) ?_ m hm hwf ?_); exact rfl; exact rfl; exact rfl)
    refine (IsMachine_any m hwf _).mono ?_
    rintro e w1 ⟨rfl, hb1⟩
    have hbb1 := hb0.trans (hb1.mono hb0.size)
    have hm1 := hm.keep hb1 hwf
    rw [c1]
    have HF := Lib.hid (containsFuncB_any 93 enters_groupOf #[.pointer (some ⟨w.heap.size, 0, none⟩)] a rows.length c (by omega) (fun i => match a with | some ad => (w.cell? ⟨ad.block, ad.off + i, none⟩).getD undef | none => undef) (fun i => !gwP m (rows[i]?.getD [])) w1
      (fun i hi => by
        obtain ⟨b, off, rfl, a', c', e, hI⟩ := HC.out i hi
        refine ⟨b, off, rfl, ?_⟩
        have e2 := (hbb1.cell (p := ⟨b, off + i, none⟩) (World.block_lt_of_cell? w _ e)).trans e
        rw [e2]
        simp only [e]; rfl)
      (fun W hW i hi => by
        obtain ⟨b, off, rfl, a', c', e, hI⟩ := HC.out i hi
        simp only [e, Option.getD_some]
        have := groupOf1_any w.heap.size m hwf a' (rows[i]?.getD []) c' (HX.out i) W (hm1.keep hW hwf) (hI.keep (hbb1.trans (hW.mono hbb1.size)))
        simpa using this))
    clear hm hb0
    go_wp2_with fail
    refine HF.out.mono ?_
    rintro e w2 ⟨rfl, hb2⟩
    have hm2 := hm1.keep hb2 hwf
    have hbb2 := hbb1.trans (hb2.mono hbb1.size)
    rw [HW.out]
    clear HF
    cases hg : gwsB m rows
    · have HGB := Lib.hid hg
      clear hm1 hmf hg
      go_wp2_with fail
      go_ret2
      rw [HGB.out]
      exact ⟨rfl, hbb2⟩
    · have HGB := Lib.hid hg
      clear hm1 hmf hg
      go_wp2_with ((with_reducible refine ld_mach ?_ (.tmp 2) ?_ (w.heap.size) (0) ?_ m hm2 hwf ?_); exact rfl; exact rfl; exact rfl)
      refine (newGroup_any m hwf hok _).mono ?_
      rintro e w3 ⟨G, rfl, hb3, hG⟩
      have hbb3 := hbb2.trans (hb3.mono hbb2.size)
      have HG := Lib.hid hG
      clear hm2 hG
      go_wp2_with fail
      go_ret2
      rw [HGB.out]
      exact ⟨G, rfl, hbb3, HG.out⟩
  · have c1' : machP m = false := by simpa using c1
    have HW : Hid (gwsB m rows = false) := by show _ = _; simp [gwsB, c1']
    clear c1
    go_wp2_with ((with_reducible refine ld_mach ?_ (.tmp 2) ?_ (w.heap.size) (0) ?_ m hm hwf ?_); exact rfl; exact rfl; exact rfl)
    refine (IsMachine_any m hwf _).mono ?_
    rintro e w1 ⟨rfl, hb1⟩
    have hbb1 := hb0.trans (hb1.mono hb0.size)
    rw [c1']
    clear hm hmf
    go_wp2_with fail
    go_ret2
    rw [HW.out]
    exact ⟨rfl, hbb1⟩
end Go.Proofs.Yteagecoiijhflaa
