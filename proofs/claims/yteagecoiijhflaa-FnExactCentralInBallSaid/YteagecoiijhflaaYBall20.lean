import Derived.Test.YteagecoiijhflaaYBall16
import Derived.Test.YteagecoiijhflaaYBall19
import Derived.Test.YteagecoiijhflaaYBall10
/- append in one's own memory: what the old row still tells. -/
namespace Go.Proofs.Yteagecoiijhflaa
open Go.RowKit
set_option linter.unusedVariables false
set_option linter.unusedSimpArgs false

theorem run_keeps {P : Program} (w : World) (t ty : TypeId) (base : Nat) (e : TypeId) (i : TypeInfo) (z : Value) (size bytes : Nat) (ht : P.underlying t = some (.slice e)) (hi : P.info? e = some i) (hz : i.zero = some z)
    (hsize : i.size = size) (hby : i.bytes = bytes) (hzs : z.cells.size = size) (hsz : 0 < size) (v : Value) (n : Nat) (xs : List Value) (hown : w.ownsRow base e size v n xs)
    (ad : Addr) (m c : Nat) (news : List Value) (hl : news.length = m * size) (hnews : ∀ j u, news[j]? = some u → w.cell? (ad.add j) = some u) (h1 : ∀ u ∈ news, u.oneCell' = true)
    (hm : 0 < m) (h63 : n + m ≤ maxLen) (hbytes : (n + m) * bytes ≤ 140737488355328) (hbase : base ≤ w.heap.size) :
    ∃ g cap w', (Builtin.append_ #[t, t] ty #[v, .slice (some ad) m c]).run P w = .ok (.slice (some ⟨g, 0, none⟩) (n + m) cap) w' ∧
      w'.ownsRow base e size (.slice (some ⟨g, 0, none⟩) (n + m) cap) (n + m) (xs ++ news) ∧ w.grownBy w' v.ownBlock ∧ (v.ownBlock = some g ∨ (g = w.heap.size ∧ ∀ k, k < w.heap.size → w'.heap[k]? = w.heap[k]?)) := by
  obtain ⟨g, cap, w', hr, h2, h3, h4, -⟩ := run_append_lies (P := P) w t ty base e i z size bytes ht hi hz hsize hby hzs hsz v n xs hown ad m c news hl hnews h1 hm h63 hbytes hbase _ rfl
  refine ⟨g, cap, w', hr, h2, h3, ?_⟩
  rcases h4 with h4 | h4
  · exact .inl h4
  · refine .inr ⟨h4, ?_⟩
    have hbig : n + m ≤ 9223372036854775807 := by simp only [maxLen] at h63; omega
    subst hsize hby
    rcases hown.2 with ⟨rfl, hn⟩ | ⟨g0, cap0, cur, rfl, hbg, hg, hnc, hcm, hcs, htake⟩
    · exact fun k hk => h3.block k hk (by simp [Value.ownBlock])
    · have hg0 : g0 < w.heap.size := (Array.getElem?_eq_some_iff.1 hg).1
      by_cases hroom : n + m ≤ cap0
      · have hfit : n * i.size + news.length ≤ cur.size := by rw [hl, hcs, ← Nat.add_mul]; exact Nat.mul_le_mul_right _ hroom
        have hr2 := run_append_room (P := P) w t ty e i ht hi g0 n cap0 cur hg ad m c news hl hnews h1 hroom hfit
        rw [hr] at hr2
        injection hr2 with e1 e2
        injection e1 with e1
        injection e1 with e1
        injection e1 with e1
        omega
      · have holds : ∀ j u, xs[j]? = some u → w.cell? ((⟨g0, 0, none⟩ : Addr).add j) = some u := hown.cells (g := g0) rfl
        have hr2 := run_append_grow (P := P) w t ty e i z ht hi hz ⟨g0, 0, none⟩ n cap0 xs hown.1 holds ad m c news hl hnews (by omega) (by omega) (growslice_fits (by omega) hbytes)
        rw [hr] at hr2
        injection hr2 with e1 e2
        subst e2
        exact fun k hk => Below.heap_alloc w.drew _ k hk
/-- cells that were there are there still, but for what lies behind the first n elements of v -/
def Old (w w' : World) (v : Value) (n z : Nat) : Prop := ∀ (k j : Nat) (u : Value), w.cell? ⟨k, j, none⟩ = some u → (v.ownBlock = some k → j < n * z) → w'.cell? ⟨k, j, none⟩ = some u
section
variable {B : Nat} {w0 w : World} {L : List (Nat × List Value × TypeId)} {G : List Gr}
/-- as Mg.appendA, with what the old row still tells -/
theorem Mg.appendO {P : Program} {ops : Array Oper} {rest : List Oper} {o : Oper} {a : Act} {Q : Exit → Act → World → Prop} (hgd : o.guard = none) (s x : Operand) (t : TypeId)
    (ho : o.op = .call { callee := .builtin .append, args := #[s, x], argTypes := #[t, t] })
    (h : Mg B w0 w L G) (i : Nat) {v : Value} {E sz n : Nat} {xs : List Value} (hi : G[i]? = some ⟨v, E, sz, n, xs⟩) {i0 : TypeInfo} {z : Value} {bytes : Nat} (ht : P.underlying t = some (.slice E)) (hI : P.info? E = some i0) (hz : i0.zero = some z)
    (hsize : i0.size = sz) (hby : i0.bytes = bytes) (hzs : z.cells.size = sz) (hp : 0 < sz) (ps : List Value) {us : Array Value} (hus : us.toList = ps) (hul : ps.length = sz) (hs : a.eval s = v) (b : Nat) (hb : w.heap.size = b) (hx : a.eval x = .slice (some ⟨b, 0, none⟩) 1 1) (hu : ∀ u ∈ ps, u.oneCell' = true)
    (hlen : n ≤ 1000000) (hbytes : bytes ≤ 1000)
    (hk : ∀ g cap w', Mg B w0 w' L (G.set i ⟨.slice (some ⟨g, 0, none⟩) (n + 1) cap, E, sz, n + 1, xs ++ ps⟩) → Old w w' v n sz → wpList P ops Q rest (a.put o.dst (.slice (some ⟨g, 0, none⟩) (n + 1) cap)) w') :
    wpList P ops Q (o :: rest) a (w.alloc (.cells us E)) := by
  subst hb hus
  have h2 := h.allocO (.cells us E)
  have hown := World.ownsRow.alloc (h.row i hi) (.cells us E)
  refine wpList_plain hgd fun K hK => ?_
  obtain ⟨g, cap, w', hr, a1, a2, a4⟩ := run_keeps (P := P) (w.alloc (.cells us E)) t o.type B E i0 z sz bytes ht hI hz hsize hby hzs hp v n xs hown ⟨w.heap.size, 0, none⟩ 1 1 us.toList (by omega) (fun j y hj => by
      have hb := Blk.new w us E
      have hadd : (⟨w.heap.size, 0, none⟩ : Addr).add j = ⟨w.heap.size, j, none⟩ := by unfold Addr.add; split <;> simp_all
      rw [hadd]
      exact hb.cell' hj) hu (by omega) (by simp [maxLen]; omega) (by
      calc (n + 1) * bytes ≤ 1000001 * 1000 := Nat.mul_le_mul (by omega) hbytes
        _ ≤ _ := by omega) h2.size
  have hM := h2.grow2 i hi a1 a2 (by
    rcases a4 with e | ⟨e, -⟩
    · exact .inl e.symm
    · exact .inr (by rw [e]; rfl))
  have hOld : Old w w' v n sz := fun k j u hc hlt => by
    have hkw : k < w.heap.size := World.block_lt_of_cell? w _ hc
    have hc2 : (w.alloc (.cells us E)).cell? ⟨k, j, none⟩ = some u := (World.cell?_of_block (w := w) (a := ⟨k, j, none⟩) (Below.heap_alloc w _ k hkw)).trans hc
    have hkw2 : k < (w.alloc (.cells us E)).heap.size := by simp; omega
    by_cases hv : v.ownBlock = some k
    · rcases a4 with e | ⟨e, h3⟩
      · rw [hv] at e; injection e with e; subst e
        -- in place
        have hj := hlt hv
        have hxl := hown.1
        have hxj : xs[j]? = some u := by
          have hj2 : j < xs.length := by rw [hxl]; exact hj
          have h5 := World.ownsRow.cells hown hv j xs[j] (List.getElem?_eq_getElem hj2)
          rw [show (⟨k, 0, none⟩ : Addr).add j = ⟨k, j, none⟩ by unfold Addr.add; split <;> simp_all] at h5
          rw [hc2] at h5
          rw [List.getElem?_eq_getElem hj2, h5]
        have h6 := World.ownsRow.cells a1 (g := k) rfl j u (by rw [List.getElem?_append_left (List.getElem?_eq_some_iff.1 hxj).1]; exact hxj)
        rwa [show (⟨k, 0, none⟩ : Addr).add j = ⟨k, j, none⟩ by unfold Addr.add; split <;> simp_all] at h6
      · exact (World.cell?_of_block (w := w.alloc (.cells us E)) (a := ⟨k, j, none⟩) (h3 k hkw2)).trans hc2
    · exact (World.cell?_of_block (w := w.alloc (.cells us E)) (a := ⟨k, j, none⟩) (a2.block k hkw2 (Ne.symm hv))).trans hc2
  unfold Oper.wp execOp
  simp only [ho, resolve, invoke, builtin, Sem.run_bind, Sem.run_pure, Result.andThen_ok, List.map_toArray, List.map_cons, List.map_nil, hs, hx, hr]
  exact hK _ _ (hk g cap w' hM hOld)
end
end Go.Proofs.Yteagecoiijhflaa

/- Balls, plain; slices.Index and slices.Contains over machines. -/
namespace Go.Proofs.Yteagecoiijhflaa
open Go.RowKit
set_option linter.unusedVariables false
set_option linter.unusedSimpArgs false

abbrev Bs := List (Wd × Mch)
def isM (ms : List Mch) (M : Mch) (i : Nat) : Bool := match ms[i]? with
  | some M' => eqM M M'
  | none => false
/-- the place of a machine in a list, or -1 -/
def posM (ms : List Mch) (M : Mch) : Int := idxN (isM ms M) ms.length
def putB (m : Mch) (s : Bs) (w : Wd) : Except Int Bs := match mwR m w with
  | none => .error 3
  | some M => if 0 ≤ posM (s.map (·.2)) M then .ok s else if s.length = 200 then .error 3 else .ok (s ++ [(w, M)])
def stB (m : Mch) (s : Except Int Bs) (w : Wd) : Except Int Bs := match s with
  | .error c => .error c
  | .ok s => putB m s w
def growS (m : Mch) (l : List Wd) (s : Except Int Bs) : Except Int Bs := l.foldl (stB m) s
theorem growS_nil (m : Mch) (s : Except Int Bs) : growS m [] s = s := rfl
theorem growS_app (m : Mch) (a b : List Wd) (s : Except Int Bs) : growS m (a ++ b) s = growS m b (growS m a s) := List.foldl_append ..
theorem growS_err (m : Mch) (c : Int) : ∀ l : List Wd, growS m l (.error c) = .error c
  | [] => rfl
  | w :: l => growS_err m c l
theorem growS_one (m : Mch) (s : Bs) (w : Wd) : growS m [w] (.ok s) = putB m s w := by simp only [growS, List.foldl_cons, List.foldl_nil, stB]
theorem growS_cons (m : Mch) (w : Wd) (l : List Wd) (s : Bs) : growS m (w :: l) (.ok s) = growS m l (putB m s w) := by simp only [growS, List.foldl_cons, stB]
def extG (gs : List Int) (w : Wd) : List Wd := gs.map fun k => w ++ [k]
/-- the words of the next sphere that are asked -/
def askG (gs : List Int) (ws : List Wd) : List Wd := ws.flatMap (extG gs)
def beginB (m : Mch) : Except Int (Bs × List Nat) := match putB m [] [] with
  | .error c => .error c
  | .ok s => .ok (s, [0])
def stepB (m : Mch) (gs : List Int) (x : Except Int (Bs × List Nat)) : Except Int (Bs × List Nat) := match x with
  | .error c => .error c
  | .ok y => match growS m (askG gs ((y.1.map (·.1)).drop (y.2.getLast?.getD 0))) (.ok y.1) with
    | .error c => .error c
    | .ok s' => .ok (s', y.2 ++ [y.1.length])
def ballR (m : Mch) (gs : List Int) : Nat → Except Int (Bs × List Nat)
  | 0 => beginB m
  | r + 1 => stepB m gs (ballR m gs r)
/-- what holds of a ball -/
structure BsOk (m : Mch) (n : Nat) (s : Bs) : Prop where
  gw : ∀ p ∈ s, GW m p.1
  len : ∀ p ∈ s, p.1.length ≤ n
  mach : ∀ p ∈ s, mwR m p.1 = some p.2
  many : s.length ≤ 200
theorem BsOk.wf {m : Mch} (hok : m.Ok) (hwf : m.Wf) {n : Nat} {s : Bs} (h : BsOk m n s) : ∀ M ∈ s.map (·.2), M.Wf := fun M hM => by
  obtain ⟨p, hp, rfl⟩ := List.mem_map.1 hM
  exact mwT_wf hok hwf (h.gw p hp) (h.mach p hp)
theorem BsOk.nil (m : Mch) (n : Nat) : BsOk m n [] := ⟨fun p h => (by cases h), fun p h => (by cases h), fun p h => (by cases h), by simp⟩
theorem BsOk.put {m : Mch} {n : Nat} {s s' : Bs} {w : Wd} (h : BsOk m n s) (hg : GW m w) (hl : w.length ≤ n) (hp : putB m s w = .ok s') : BsOk m n s' := by
  unfold putB at hp
  split at hp
  · cases hp
  · rename_i M hM
    split at hp
    · injection hp with hp; subst hp; exact h
    · split at hp
      · cases hp
      · rename_i hn
        injection hp with hp; subst hp
        refine ⟨fun p hp => ?_, fun p hp => ?_, fun p hp => ?_, by rw [List.length_append]; have := h.many; simp; omega⟩ <;> rcases List.mem_append.1 hp with hp | hp
        · exact h.gw p hp
        · rw [List.mem_singleton.1 hp]; exact hg
        · exact h.len p hp
        · rw [List.mem_singleton.1 hp]; exact hl
        · exact h.mach p hp
        · rw [List.mem_singleton.1 hp]; exact hM
theorem putB_pre {m : Mch} {s s' : Bs} {w : Wd} (hp : putB m s w = .ok s') : ∃ R, s' = s ++ R := by
  unfold putB at hp
  split at hp
  · cases hp
  · split at hp
    · injection hp with hp; exact ⟨[], by simp [hp]⟩
    · split at hp
      · cases hp
      · injection hp with hp; exact ⟨_, hp.symm⟩
theorem BsOk.less {m : Mch} {n k : Nat} {s : Bs} (h : BsOk m n s) (hk : n ≤ k) : BsOk m k s := ⟨h.gw, fun p hp => Nat.le_trans (h.len p hp) hk, h.mach, h.many⟩
theorem BsOk.grow {m : Mch} {n : Nat} (l : List Wd) : ∀ (s s' : Bs), BsOk m n s → (∀ w ∈ l, GW m w ∧ w.length ≤ n) → growS m l (.ok s) = .ok s' → BsOk m n s' := by
  induction l with
  | nil => intro s s' h _ hg; rw [growS_nil] at hg; cases hg; exact h
  | cons w l ih =>
    intro s s' h hl hg
    rw [growS_cons] at hg
    cases hp : putB m s w with
    | error c => rw [hp, growS_err] at hg; cases hg
    | ok s1 =>
      rw [hp] at hg
      exact ih s1 s' (h.put (hl w (List.mem_cons_self ..)).1 (hl w (List.mem_cons_self ..)).2 hp) (fun x hx => hl x (List.mem_cons_of_mem _ hx)) hg
theorem growS_pre {m : Mch} (l : List Wd) : ∀ (s s' : Bs), growS m l (.ok s) = .ok s' → ∃ R, s' = s ++ R := by
  induction l with
  | nil => intro s s' hg; rw [growS_nil] at hg; cases hg; exact ⟨[], by simp⟩
  | cons w l ih =>
    intro s s' hg
    rw [growS_cons] at hg
    cases hp : putB m s w with
    | error c => rw [hp, growS_err] at hg; cases hg
    | ok s1 =>
      rw [hp] at hg
      obtain ⟨R1, rfl⟩ := putB_pre hp
      obtain ⟨R2, rfl⟩ := ih _ _ hg
      exact ⟨R1 ++ R2, by rw [List.append_assoc]⟩
theorem ask_ok {m : Mch} {gs : List Int} (hg : GW m gs) {n : Nat} {s : Bs} (h : BsOk m n s) (f : Nat) : ∀ w ∈ askG gs ((s.map (·.1)).drop f), GW m w ∧ w.length ≤ n + 1 := fun w hw => by
  simp only [askG, extG, List.mem_flatMap, List.mem_map] at hw
  obtain ⟨v, hv, k, hk, rfl⟩ := hw
  obtain ⟨p, hp, rfl⟩ := List.mem_map.1 (List.mem_of_mem_drop hv)
  exact ⟨gw_app (h.gw p hp) fun q hq => by rw [List.mem_singleton.1 hq]; exact hg k hk, by have := h.len p hp; simp; omega⟩
theorem beginB_ok (m : Mch) {s : Bs} {st : List Nat} (h : beginB m = .ok (s, st)) : putB m [] [] = .ok s ∧ st = [0] := by
  unfold beginB at h
  cases hp : putB m [] [] with
  | error c => rw [hp] at h; cases h
  | ok s1 => rw [hp] at h; cases h; exact ⟨rfl, rfl⟩
theorem stepB_err (m : Mch) (gs : List Int) (c : Int) : stepB m gs (.error c) = .error c := by simp only [stepB]
theorem stepB_ok (m : Mch) (gs : List Int) (x : Except Int (Bs × List Nat)) {s : Bs} {st : List Nat} (h : stepB m gs x = .ok (s, st)) :
    ∃ s1 st1, x = .ok (s1, st1) ∧ growS m (askG gs ((s1.map (·.1)).drop (st1.getLast?.getD 0))) (.ok s1) = .ok s ∧ st = st1 ++ [s1.length] := by
  cases x with
  | error c => rw [stepB_err] at h; cases h
  | ok y =>
    obtain ⟨s1, st1⟩ := y
    unfold stepB at h
    simp only at h
    cases hg : growS m (askG gs ((s1.map (·.1)).drop (st1.getLast?.getD 0))) (.ok s1) with
    | error c => rw [hg] at h; cases h
    | ok s2 => rw [hg] at h; cases h; exact ⟨s1, st1, rfl, hg, rfl⟩
theorem ballR_zero (m : Mch) (gs : List Int) : ballR m gs 0 = beginB m := by rw [ballR]
theorem ballR_succ (m : Mch) (gs : List Int) (r : Nat) : ballR m gs (r + 1) = stepB m gs (ballR m gs r) := by rw [ballR]
theorem ballR_ok {m : Mch} {gs : List Int} (hg : GW m gs) (r : Nat) : ∀ {s : Bs} {st : List Nat}, ballR m gs r = .ok (s, st) → BsOk m r s ∧ st.length = r + 1 ∧ ∀ i ∈ st, i ≤ s.length := by
  induction r with
  | zero =>
    intro s st h
    rw [ballR_zero] at h
    obtain ⟨hp, rfl⟩ := beginB_ok m h
    exact ⟨(BsOk.nil m 0).put (GW.nil m) (Nat.le_refl _) hp, rfl, fun i hi => by rw [List.mem_singleton.1 hi]; exact Nat.zero_le _⟩
  | succ r ih =>
    intro s st h
    rw [ballR_succ] at h
    obtain ⟨s1, st1, hb, hgr, rfl⟩ := stepB_ok m gs _ h
    obtain ⟨h1, h2, h3⟩ := ih hb
    obtain ⟨R, hR⟩ := growS_pre _ _ _ hgr
    refine ⟨BsOk.grow _ _ _ (h1.less (Nat.le_succ r)) (ask_ok hg h1 _) hgr, by rw [List.length_append, h2]; rfl, fun i hi => ?_⟩
    rw [hR, List.length_append]
    rcases List.mem_append.1 hi with hi | hi
    · have := h3 i hi; omega
    · rw [List.mem_singleton.1 hi]; omega

/-! machines in the memory -/
def cellsM (ms : List Mch) : List Value := ms.flatMap Mch.cells
theorem cellsM_snoc (ms : List Mch) (M : Mch) : cellsM (ms ++ [M]) = cellsM ms ++ M.cells := by simp [cellsM]
theorem cellsM_get : ∀ {ms : List Mch} (h : ∀ M ∈ ms, M.Wf) {i : Nat} {M : Mch}, ms[i]? = some M → ∀ k, k < 98 → (cellsM ms)[i * 98 + k]? = M.cells[k]?
  | [], _, i, M, hi, k, hk => by simp at hi
  | M' :: ms, h, 0, M, hi, k, hk => by
    simp at hi; subst hi
    have e : cellsM (M' :: ms) = M'.cells ++ cellsM ms := rfl
    rw [e, List.getElem?_append_left (by rw [Mch.cells_length (h M' (List.mem_cons_self ..))]; omega)]
    congr 1; omega
  | M' :: ms, h, i + 1, M, hi, k, hk => by
    have e : cellsM (M' :: ms) = M'.cells ++ cellsM ms := rfl
    have hl := Mch.cells_length (h M' (List.mem_cons_self ..))
    rw [e, List.getElem?_append_right (by rw [hl]; omega), hl, ← cellsM_get (fun x hx => h x (List.mem_cons_of_mem _ hx)) (by simpa using hi) k hk]
    congr 1; omega
/-- a list of machines lies there -/
def MsAt (w : World) (a : Option Addr) (ms : List Mch) : Prop := ∀ i M, ms[i]? = some M → ∃ g, a = some ⟨g, 0, none⟩ ∧ MAt w g (i * 98) M
theorem MsAt.keep {w w' : World} {a : Option Addr} {ms : List Mch} (h : MsAt w a ms) (hb : Below w.heap.size w w') : MsAt w' a ms := fun i M hi => by
  obtain ⟨g, e, hM⟩ := h i M hi
  exact ⟨g, e, hM.below hb (World.block_lt_of_cell? w _ hM.l)⟩
theorem Mg.ms {B : Nat} {w0 w : World} {L : List (Nat × List Value × TypeId)} {G : List Gr} {a : Option Addr} {c n i : Nat} {ms : List Mch} (h : Mg B w0 w L G) (hw : ∀ M ∈ ms, M.Wf) (hn : n = ms.length) (hi : G[i]? = some ⟨.slice a n c, 29, 98, n, cellsM ms⟩) : MsAt w a ms := fun j M hj => by
  subst hn
  have hjl := (List.getElem?_eq_some_iff.1 hj).1
  obtain ⟨g, c', e⟩ := h.form i hi (by omega)
  injection e with e1 e2 e3
  subst e1 e3
  refine ⟨g, rfl, h.elem hi j M.cells (fun k v hv => ?_)⟩
  have hM := hw M (List.mem_of_getElem? hj)
  have hk : k < 98 := by have := (List.getElem?_eq_some_iff.1 hv).1; rw [Mch.cells_length hM] at this; exact this
  rw [cellsM_get hw hj k hk]; exact hv

set_option maxRecDepth 100000 in
set_option maxHeartbeats 2000000 in
theorem slIndexM_any (a : Option Addr) (c : Nat) (ms : List Mch) (hn : ms.length ≤ 1000) (hw : ∀ M ∈ ms, M.Wf) (M : Mch) (hM : M.Wf) (w : World) (h : MsAt w a ms) :
    Calls Try.prog 117 #[.slice a ms.length c, .agg M.cells.toArray] w (Ret (.int .i64 (posM ms M)) w) := by
  have HMX := Lib.hid (show Try.prog.follows .mixedOrders = true by kernel_rfl)
  have HGT : Hid (Try.prog.eqGuardType Try.prog.depth 29 = false) := by show _ = _; kernel_rfl
  have HIM := Lib.hid (mach_infoT hM)
  have HH := Lib.hid h
  have hM0 := (Mm.start w).alloc M.cells.toArray 29
  have HM0 := Lib.hid hM0
  clear h hM0
  go_enter Try.func117, Try.ntmps117
  go_wp2_with fail
  go_loopw [5, 8] (fun _ i wr => ∃ j : Nat, j ≤ ms.length ∧ i = .int .i64 (j : Int) ∧ Mm w.heap.size w wr [(w.heap.size, M.cells, 29)] [] ∧ Hid (∀ k, k < j → isM ms M k = false)) (fun _ i _ => ms.length - (intOf i).toNat)
  case atStart => exact ⟨0, Nat.zero_le _, rfl, HM0.out, fun k hk => by omega⟩
  case round =>
    clear HM0
    obtain ⟨j, hj, rfl, hMm, HN⟩ := hrel
    have ej : IntKind.i64.wrap ((j : Int) + 1) = (j : Int) + 1 := IntWalk.i64_in _ (by omega)
    by_cases hlt : j < ms.length
    · obtain ⟨M', hM'⟩ : ∃ M', ms[j]? = some M' := ⟨_, List.getElem?_eq_getElem hlt⟩
      obtain ⟨g, rfl, hAt⟩ := HH.out j M' hM'
      have hW' := hw M' (List.mem_of_getElem? hM')
      have HIM2 := Lib.hid (mach_infoT hW')
      have hgl : g < w.heap.size := World.block_lt_of_cell? w _ hAt.l
      have HAT : Hid (∀ W, Below w.heap.size w W → MAt W g (j * 98) M') := fun W hW => hAt.below hW hgl
      have HEQ : Hid (∀ W, (Op.equalIn 10000 29 (.agg M.cells.toArray) (.agg M'.cells.toArray)).run Try.prog W = .ok (eqM M M') W) := fun W => eql_mach hM hW' W
      have HIS : Hid (isM ms M j = eqM M M') := by show _ = _; rw [isM, hM']
      have i1 : (0 : Int) ≤ (j : Int) := by omega
      have i2 : (j : Int) < (ms.length : Int) := by omega
      have HM1 : Hid (Mm w.heap.size w wr.drew [(w.heap.size, M.cells, 29)] []) := hMm.drew
      generalize eqM M M' = eb at *
      clear hMm hAt hM'
      go_wp2_with fail
      refine region_A (fun W => MAt W w.heap.size 0 M ∧ MAt W g (j * 98) M') [] 6 (fun W => Mm w.heap.size w W [(w.heap.size, M.cells, 29)] []) rfl HMX.out HM1.out (fun W h => ⟨h.mach 0 rfl, HAT.out W h.below⟩) (fun W hMW hU => ?_)
      clear HM1
      (refine AnyS.takeS (i := 0) rfl (by kernel_rfl) (by kernel_rfl) (by kernel_rfl) (by rfl) (by kernel_rfl) (by kernel_rfl) (fun _ _ _ h => h) (by rfl) (fun W hW => run_ld Try.underlying29 rfl HIM.out (.tmp 3) rfl rfl hW.1) hU (fun hU => ?_); (try simp only [Act.put, List.setIfInBounds_toArray, List.set_cons_zero, List.set_cons_succ]))
      (refine AnyS.take (i := 1) rfl (by kernel_rfl) (by kernel_rfl) (by kernel_rfl) (by rfl) (fun _ _ _ h => h) (by rfl) (by intro w; go_simp; with_reducible rfl) hU (fun hU => ?_); (try simp only [Act.put, List.setIfInBounds_toArray, List.set_cons_zero, List.set_cons_succ]); refine AnyS.take (i := 2) rfl (by kernel_rfl) (by kernel_rfl) (by kernel_rfl) (by rfl) (fun _ _ _ h => h) (by rfl) (by intro w; go_simp; with_reducible rfl) hU (fun hU => ?_); (try simp only [Act.put, List.setIfInBounds_toArray, List.set_cons_zero, List.set_cons_succ]); refine AnyS.take (i := 3) rfl (by kernel_rfl) (by kernel_rfl) (by kernel_rfl) (by rfl) (fun _ _ _ h => h) (by rfl) (by intro w; go_simp; with_reducible rfl) hU (fun hU => ?_); (try simp only [Act.put, List.setIfInBounds_toArray, List.set_cons_zero, List.set_cons_succ]))
      (refine AnyS.takeS (i := 4) rfl (by kernel_rfl) (by kernel_rfl) (by kernel_rfl) (by rfl) (by kernel_rfl) (by kernel_rfl) (fun _ _ _ h => h) (by rfl) (fun W hW => run_ld Try.underlying29 rfl HIM2.out (.tmp 14) rfl rfl hW.2) hU (fun hU => ?_); (try simp only [Act.put, List.setIfInBounds_toArray, List.set_cons_zero, List.set_cons_succ]))
      (refine AnyS.takeS (i := 5) rfl (by kernel_rfl) (by kernel_rfl) (by kernel_rfl) (by rfl) (by kernel_rfl) (by kernel_rfl) (fun _ _ _ h => h) (by rfl) (fun W hW => ex_eql rfl HGT.out HEQ.out rfl rfl W) hU (fun hU => ?_); (try simp only [Act.put, List.setIfInBounds_toArray, List.set_cons_zero, List.set_cons_succ]))
      refine AnyS.done (by kernel_rfl) ?_ _
      clear hU HEQ
      have HMW := Lib.hid hMW
      clear hMW
      cases eb
      · have HN2 : Hid (∀ k, k < j + 1 → isM ms M k = false) := fun k hk => by
          by_cases e : k = j
          · subst e; exact HIS.out
          · exact HN.out k (by omega)
        go_wp2_with fail
        go_roundw
        case rel => exact ⟨j + 1, by omega, by go_num, HMW.out, HN2.out⟩
        case measure => simp [intOf] <;> omega
      · have HP : Hid (posM ms M = (j : Int)) := idxN_hit hlt HIS.out HN.out
        go_wp2_with fail
        go_ret
        exact ⟨ret_int HP.out.symm, HMW.out.below⟩
    · have HP : Hid (posM ms M = -1) := idxN_none fun k hk => HN.out k (by omega)
      have hj' : ¬ (j : Int) < ms.length := by omega
      have HMW := Lib.hid hMm
      clear hMm
      go_wp2_with fail
      go_ret
      exact ⟨ret_int HP.out.symm, HMW.out.below⟩

set_option maxRecDepth 100000 in
set_option maxHeartbeats 2000000 in
theorem slContainsM_any (a : Option Addr) (c : Nat) (ms : List Mch) (hn : ms.length ≤ 1000) (hw : ∀ M ∈ ms, M.Wf) (M : Mch) (hM : M.Wf) (w : World) (h : MsAt w a ms) :
    Calls Try.prog 158 #[.slice a ms.length c, .agg M.cells.toArray] w (Ret (.bool (decide (0 ≤ posM ms M))) w) := by
  have hM0 := (Mm.start w).alloc M.cells.toArray 29
  have hm := hM0.mach 0 rfl
  have HIX := Lib.hid (slIndexM_any a c ms hn hw M hM _ (h.keep hM0.below))
  have HM0 := Lib.hid hM0
  have hM1 := hM
  clear h hM0
  go_enter Try.func158, Try.ntmps158
  go_wp2_with ((with_reducible refine ld_mach ?_ (.tmp 3) ?_ w.heap.size 0 ?_ M hm hM1 ?_); exact rfl; exact rfl; exact rfl)
  refine HIX.out.mono ?_
  rintro e w1 ⟨rfl, hb1⟩
  have hb := (HM0.out.call hb1).below
  generalize posM ms M = p at *
  clear HIX HM0 hm hb1
  by_cases hp : 0 ≤ p
  · go_wp2_with fail
    go_ret
    exact ⟨ret_bool (by simp [hp]), hb⟩
  · go_wp2_with fail
    go_ret
    exact ⟨ret_bool (by simp [hp]), hb⟩
end Go.Proofs.Yteagecoiijhflaa

/- Regions in drawn order: a load taken first, where the stores wait for it through other operations. -/
namespace Go.Proofs.Yteagecoiijhflaa
open Go.RowKit
set_option linter.unusedVariables false
set_option linter.unusedSimpArgs false
section
variable {P : Program} {ops : Array Oper} {Q : Exit → Act → World → Prop} {md : Region.Mode} {S : World → Prop} {L : List Nat}
/-- Each of M waits for i or for one of M. -/
def WaitVia (md : Region.Mode) (ops : Array Oper) (M : List Nat) (i : Nat) : Bool := M.all fun l => match ops[l]? with | some o => o.after.any fun e => Region.binds md e && (e.on == i || M.contains e.on) | none => true
theorem AnyS.firstV {i : Nat} {oi : Oper} {v : Value} (hi : ops[i]? = some oi) (hsel : ∀ (j : Nat) (o : Oper) cs b, ops[j]? = some o → o.op ≠ .select cs b)
    (hQ : ∀ c a w, Q (.panic c) (a.put oi.dst v) w → Q (.panic c) a w) (hL : i ∉ L) (M : List Nat) (hsub : ∀ l ∈ L, l ∈ M) (hw : WaitVia md ops M i = true) :
    ∀ (n : Nat) (listed : Array Bool) (a : Act) (w : World),
      (∀ j oj, ops[j]? = some oj → j ≠ i → listed.getD j true = false → (∀ e ∈ oj.after, Region.binds md e = true → e.on ≠ i) → oi.apart ops oj = true) →
      (∀ l ∈ M, listed.getD l true = false) →
      i ∈ Region.ready md ops listed → YieldsIf P ops S oi v a → Upto S L listed w →
      AnyS P md ops Q S L n (listed.setIfInBounds i true) (a.put oi.dst v) w → AnyS P md ops Q S L (n + 1) listed a w := by
  have now : ∀ (listed : Array Bool) w, (∀ l ∈ M, listed.getD l true = false) → Upto S L listed w → S w := fun listed w hd h => by
    rcases h with h | ⟨l, hl, h⟩
    · exact h
    · rw [hd l (hsub l hl)] at h; cases h
  intro n
  induction n with
  | zero =>
    intro listed a w _ hd hr hy hS H
    refine ⟨fun h => (by rw [h] at hr; cases hr), fun j hj => ?_⟩
    by_cases hji : j = i
    · subst hji; exact hy.wpOp hi (now _ _ hd hS) ⟨hS.more hL, H⟩
    · have := ready_mono hj hji
      rw [H.1] at this
      cases this
  | succ n ih =>
    intro listed a w hfree hd hr hy hS H
    refine ⟨fun h => (by rw [h] at hr; cases hr), fun j hj => ?_⟩
    by_cases hji : j = i
    · subst hji; exact hy.wpOp hi (now _ _ hd hS) ⟨hS.more hL, H⟩
    · have h1 := H.2 j (ready_mono hj hji)
      obtain ⟨hjun, oj, hoj, hall⟩ := mem_ready.1 hj
      have h0 := (mem_ready.1 hr).1
      have hnot : ∀ e ∈ oj.after, Region.binds md e = true → e.on ≠ i := fun e he hb heq => by
        have h1 := hall e he hb
        rw [heq] at h1
        rcases Nat.lt_or_ge i listed.size with h' | h'
        · simp [h'] at h0 h1; rw [h0] at h1; cases h1
        · simp [Array.getElem?_eq_none h'] at h1
      have hnotM : ∀ e ∈ oj.after, Region.binds md e = true → e.on ∉ M := fun e he hb hm => by
        have h1 := hall e he hb
        have h0 := hd _ hm
        rcases Nat.lt_or_ge e.on listed.size with h' | h'
        · simp [h'] at h0 h1; rw [h0] at h1; cases h1
        · simp [Array.getElem?_eq_none h'] at h1
      have h2 := wpOp_putIf hoj (hfree j oj hoj hji hjun hnot) (fun cs b => hsel i oi cs b hi) (fun cs b => hsel j oj cs b hoj) hQ hy h1
      have hfree' : ∀ k ok, ops[k]? = some ok → k ≠ i → (listed.setIfInBounds j true).getD k true = false →
          (∀ e ∈ ok.after, Region.binds md e = true → e.on ≠ i) → oi.apart ops ok = true := fun k ok hk hki hun hno => by
        refine hfree k ok hk hki ?_ hno
        by_cases hjk : j = k
        · subst hjk; exact hjun
        · rw [getD_set_ne true hjk] at hun; exact hun
      have hd' : ∀ l ∈ M, (listed.setIfInBounds j true).getD l true = false := fun l hl => by
        by_cases e : j = l
        · exfalso
          subst e
          have := (List.all_eq_true.1 hw) j hl
          rw [hoj] at this
          obtain ⟨e, he, hb⟩ := Array.any_eq_true'.1 this
          simp only [Bool.and_eq_true, Bool.or_eq_true, beq_iff_eq, List.contains_iff_mem] at hb
          rcases hb.2 with h | h
          · exact hnot e he hb.1 h
          · exact hnotM e he hb.1 h
        · rw [getD_set_ne true e]; exact hd l hl
      refine wpOp_mono (fun a' w' h3 => ?_) h2
      have hS2 : Upto S L (listed.setIfInBounds j true) w' := by
        have := h3.2.1
        rw [Array.setIfInBounds_comm _ _ (Ne.symm hji)] at this
        exact this.less hL
      refine ⟨hS2, ih (listed.setIfInBounds j true) a' w' hfree' hd' (ready_mono hr (Ne.symm hji)) h3.1 hS2 ?_⟩
      rw [Array.setIfInBounds_comm _ _ hji]
      exact h3.2.2
theorem AnyS.takeV (M : List Nat) {i : Nat} {oi : Oper} {v : Value} {n : Nat} {listed : Array Bool} {a : Act} {w : World} (hi : ops.toList[i]? = some oi)
    (hs : Region.noSelect ops = true) (hf : Region.free md ops listed i = true) (hr : (Region.ready md ops listed).contains i = true) (hL : L.contains i = false)
    (hsub : (L.all fun l => M.contains l) = true) (hW : WaitVia md ops M i = true) (hd : (M.all fun l => !listed.getD l true) = true)
    (hQ : ∀ c a w, Q (.panic c) (a.put oi.dst v) w → Q (.panic c) a w) (hw : Region.wanted oi (yielded ops a.tmps) = true) (hy : ∀ w, S w → (execOp a.eval oi).run P w = .ok (.value v) w) (hS : Upto S L listed w)
    (h : Upto S L (listed.setIfInBounds i true) w → AnyS P md ops Q S L n (listed.setIfInBounds i true) (a.put oi.dst v) w) : AnyS P md ops Q S L (n + 1) listed a w :=
  AnyS.firstV (by rwa [Array.getElem?_toList] at hi) (Region.noSelect_spec hs) hQ (by simpa using hL) M (fun l hl => by simpa using (List.all_eq_true.1 hsub) l hl) hW n listed a w (Region.free_spec (by rwa [Array.getElem?_toList] at hi) hf) (fun l hl => by simpa using (List.all_eq_true.1 hd) l hl) (by simpa using hr) (.inl ⟨hw, hy⟩) hS (h (hS.more (by simpa using hL)))
end
end Go.Proofs.Yteagecoiijhflaa

/- l04At: the place of a word's machine in a list, of the reference. -/
namespace Go.Proofs.Yteagecoiijhflaa
open Go.RowKit
set_option linter.unusedVariables false
set_option linter.unusedSimpArgs false

theorem eqM_comm (M M' : Mch) : eqM M M' = eqM M' M := by
  rw [Bool.eq_iff_iff, eqM_iff, eqM_iff]; exact ⟨Eq.symm, Eq.symm⟩
theorem st_rowQ {P : Program} {ops : Array Oper} {o : Oper} {a : Act} {w : World} {K : Act → World → Prop} {Q : Exit → Act → World → Prop} (hwd : Region.wanted o (yielded ops a.tmps) = true) (T : TypeId) (x y : Operand) (ho : o.op = .store T x y)
    (b off : Nat) (cs : List Value) (hx : a.eval x = .pointer (some ⟨b, off, none⟩)) (hy : a.eval y = .agg cs.toArray) (ht : w.there b off cs.length) (hi : (P.info? T).map (·.size) = some cs.length) (h1 : ∀ v ∈ cs, v.oneCell' = true)
    (h : K (a.put o.dst undef) (w.setCells b off cs)) : if Region.wanted o (yielded ops a.tmps) = true then Oper.wp P o a w K Q else K (a.put o.dst undef) w := by
  rw [if_pos hwd]
  exact wp_store_mid T x y ho b off cs.toArray hx hy (by rw [List.size_toArray]; exact ht) (by rw [List.size_toArray]; exact hi) (all_oneCell_toArray h1) h
theorem results_tct {P : Program} {fn : Func} {p q r : Tmp} {ty : TypeId} (h : fn.results = #[.tmp p, .cell q ty, .tmp r]) (tmps : Array Value) (w : World) (g : Nat) (t : TypeId) (cs : Array Value) (fr : Nat × Nat) (d : TypeDesc)
    (hp : tmps.getD q undef = .pointer (some ⟨g, 0, none⟩)) (hg : w.heap[g]? = some (.cells cs t fr))
    (hu : P.underlying ty = some d) (hd : (match d with | .struct _ | .array _ _ => true | _ => false) = true) (hi : (P.info? ty).map (·.size) = some cs.size) :
    (results fn tmps).run P w = .ok (.tuple #[tmps.getD p undef, .agg cs, tmps.getD r undef]) w := by
  have hp' : tmps[q]?.getD undef = .pointer (some ⟨g, 0, none⟩) := by simpa using hp
  simp [results, h, hp', asAddr, run_loadVar_row w g t ty cs fr d hg hu hd hi]
def RetAt (r : Option Mch) (ms : List Mch) (w : World) (e : Ending) (w' : World) : Prop := Below w.heap.size w w' ∧ match r with
  | none => e = .returned (.tuple #[.int .i64 (-1), .agg Try.zeroCells29, .int .i64 3])
  | some M => e = .returned (.tuple #[.int .i64 (posM ms M), .agg M.cells.toArray, .int .i64 0])

set_option maxRecDepth 100000 in
set_option maxHeartbeats 4000000 in
theorem l04At_any (m : Mch) (hwf : m.Wf) (hok : m.Ok) (vw : Value) (am : Option Addr) (cm : Nat) (ms : List Mch) (hn : ms.length ≤ 1000) (hms : ∀ M ∈ ms, M.Wf) (a : Option Addr) (g : Wd) (c : Nat) (hg : GW m g) (hl : g.length ≤ 1000) (w : World) (hI : IntsAt w a g) (h : MsAt w am ms) :
    Calls Try.prog 79 #[.agg m.cells.toArray, .agg #[vw, .slice am ms.length cm], .slice a g.length c] w (RetAt (mwR m g) ms w) := by
  have HMX := Lib.hid (show Try.prog.follows .mixedOrders = true by kernel_rfl)
  have HGT : Hid (Try.prog.eqGuardType Try.prog.depth 29 = false) := by show _ = _; kernel_rfl
  have hM0 := (((Mg.start w).alloc m.cells.toArray 29).alloc #[vw, .slice am ms.length cm] 87).alloc Try.zeroCells29 29
  rw [World.size_alloc, World.size_alloc] at hM0
  have hm := hM0.mach 2 rfl
  have HMA := Lib.hid (l02Machine_any m hwf hok a g c hg hl _ (hI.keep hM0.below))
  have HH : Hid (∀ W L, Mg w.heap.size w W L [] → MsAt W am ms) := fun W L hM => h.keep hM.below
  have HWM := Lib.hid (fun M h => mwT_wf (M := M) hok hwf hg h)
  have HM0 := Lib.hid hM0
  have HIZ : Hid ((Try.prog.info? 29).map (·.size) = some Try.zeroCells29.toList.length) := by show _ = _; rw [zero_len]; kernel_rfl
  have HOZ : Hid (∀ v ∈ Try.zeroCells29.toList, v.oneCell' = true) := zero_ones
  have HI5 : Hid ((Try.prog.info? 29).map (·.size) = some Try.zeroCells29.size) := by show _ = _; rw [HIZ.out, Array.length_toList]
  have HMS := Lib.hid hms
  clear hM0 h hms hg hI
  go_enter Try.func79, Try.ntmps79
  go_wp2_with ((with_reducible refine ld_mach ?_ (.tmp 3) ?_ (w.heap.size) (0) ?_ m hm hwf ?_); exact rfl; exact rfl; exact rfl)
  refine HMA.out.mono ?_
  rintro e w1 ⟨hb1, hR1⟩
  have hM1 := (HM0.out.call hb1).alloc Try.zeroCells29 29
  cases hp : mwR m g with
  | none =>
    rw [hp] at hR1
    obtain rfl := hR1
    have ht := (hM1.at 0 rfl).there 0 Try.zeroCells29.toList.length (by simp)
    have HM2 := Lib.hid (hM1.setAll 0 rfl (vs := Try.zeroCells29.toList) rfl)
    have HP := Lib.hid hp
    clear hM1 HMA HM0 hb1 hm HWM hp
    go_wp2_with ((with_reducible refine st_row ?_ 29 (.tmp 9) (.tmp 16) ?_ w1.heap.size 0 Try.zeroCells29.toList ?_ ?_ ht HIZ.out HOZ.out ?_); exact rfl; exact rfl; exact rfl; exact rfl)
    have HM3 : Hid (Mg w.heap.size w ((w1.alloc (.cells Try.zeroCells29 29)).setCells w1.heap.size 0 Try.zeroCells29.toList).drew [(w1.heap.size, Try.zeroCells29.toList, 29), (w.heap.size + 1 + 1, Try.zeroCells29.toList, 29), (w.heap.size + 1, [vw, .slice am ms.length cm], 87), (w.heap.size, m.cells, 29)] []) := HM2.out.drewN 1
    clear HM2 ht
    generalize w1.heap.size = b9 at *
    refine region_A (fun W => W.rangeAt b9 0 Try.zeroCells29.toList) [3] 5 (fun W => Mg w.heap.size w W [(b9, Try.zeroCells29.toList, 29), (w.heap.size + 1 + 1, Try.zeroCells29.toList, 29), (w.heap.size + 1, [vw, .slice am ms.length cm], 87), (w.heap.size, m.cells, 29)] []) rfl HMX.out HM3.out (fun W h => (h.at 0 rfl).all) (fun W hM hU => ?_)
    clear HM3
    (refine AnyS.takeS (i := 0) rfl (by kernel_rfl) (by kernel_rfl) (by kernel_rfl) (by rfl) (by kernel_rfl) (by kernel_rfl) (fun _ _ _ h => h) (by rfl) (fun W hW => run_ld Try.underlying29 rfl HIZ.out (.tmp 9) rfl rfl hW) hU (fun hU => ?_); (try simp only [Act.put, List.setIfInBounds_toArray, List.set_cons_zero, List.set_cons_succ]))
    (refine AnyS.take (i := 1) rfl (by kernel_rfl) (by kernel_rfl) (by kernel_rfl) (by rfl) (fun _ _ _ h => h) (by rfl) (by intro w; go_simp; with_reducible rfl) hU (fun hU => ?_); (try simp only [Act.put, List.setIfInBounds_toArray, List.set_cons_zero, List.set_cons_succ]); refine AnyS.take (i := 2) rfl (by kernel_rfl) (by kernel_rfl) (by kernel_rfl) (by rfl) (fun _ _ _ h => h) (by rfl) (by intro w; go_simp; with_reducible rfl) hU (fun hU => ?_); (try simp only [Act.put, List.setIfInBounds_toArray, List.set_cons_zero, List.set_cons_succ]))
    (refine AnyS.branch (rs := [3]) (by kernel_rfl) (List.cons_ne_nil _ _) ?_; refine AllS.cons rfl ?_ AllS.nil; intro K hK)
    have ht := (hM.at 1 rfl).there 0 Try.zeroCells29.toList.length (by simp)
    have hM4 := hM.setAll 1 rfl (vs := Try.zeroCells29.toList) rfl
    refine st_rowQ (by rfl) 29 (.tmp 7) (.tmp 20) rfl (w.heap.size + 1 + 1) 0 Try.zeroCells29.toList rfl rfl ht HIZ.out HOZ.out ?_
    refine hK.out _ _ (.inl (hM4.at 0 rfl).all) (fun hU => ?_)
    clear hK K hM ht
    (try simp only [Act.put, List.setIfInBounds_toArray, List.set_cons_zero, List.set_cons_succ])
    (refine AnyS.take (i := 4) rfl (by kernel_rfl) (by kernel_rfl) (by kernel_rfl) (by rfl) (fun _ _ _ h => h) (by rfl) (by intro w; go_simp; with_reducible rfl) hU (fun hU => ?_); (try simp only [Act.put, List.setIfInBounds_toArray, List.set_cons_zero, List.set_cons_succ]))
    refine AnyS.done (by kernel_rfl) ?_ _
    clear hU
    have HB := Lib.hid (hM4.at 1 rfl)
    have hb := hM4.below
    clear hM4
    go_wp2_with fail
    refine bodyPost_ret (v := .tuple #[.int .i64 (-1), .agg Try.zeroCells29, .int .i64 3]) (results_tct Try.results79 _ _ (w.heap.size + 1 + 1) 29 Try.zeroCells29 (0, 0) (.struct _) rfl HB.out Try.underlying29 rfl HI5.out) rfl ?_
    rw [HP.out]
    exact ⟨hb, rfl⟩
  | some M =>
    rw [hp] at hR1
    obtain rfl := hR1
    have hwM := HWM.out M hp
    have HWF := Lib.hid hwM
    have HIM := Lib.hid (mach_infoT hwM)
    have HOM := Lib.hid (mach_ones M)
    have hML := Mch.cells_length hwM
    have HML := Lib.hid hML
    have ht := (hM1.at 0 rfl).there 0 M.cells.length (by simp only; rw [zero_len, hML]; omega)
    have HM2 := Lib.hid (hM1.setAll 0 rfl (vs := M.cells) (by rw [zero_len, hML]))
    have HP := Lib.hid hp
    have HI6 : Hid ((Try.prog.info? 29).map (·.size) = some M.cells.toArray.size) := HIM.out.trans (by rw [List.size_toArray])
    clear hM1 HMA HM0 hb1 hm HWM hp hwM hML
    go_wp2_with ((with_reducible refine st_row ?_ 29 (.tmp 9) (.tmp 16) ?_ w1.heap.size 0 M.cells ?_ ?_ ht HIM.out HOM.out ?_); exact rfl; exact rfl; exact rfl; exact rfl)
    clear ht
    have HM3 : Hid (Mg w.heap.size w ((w1.alloc (.cells Try.zeroCells29 29)).setCells w1.heap.size 0 M.cells) [(w1.heap.size, M.cells, 29), (w.heap.size + 1 + 1, Try.zeroCells29.toList, 29), (w.heap.size + 1, [vw, .slice am ms.length cm], 87), (w.heap.size, m.cells, 29)] []) := HM2.out
    clear HM2
    generalize w1.heap.size = b9 at *
    go_loopw [11] (fun iv wr => ∃ j : Nat, j ≤ ms.length ∧ iv = .int .i64 (j : Int) ∧ Mg w.heap.size w wr [(b9, M.cells, 29), (w.heap.size + 1 + 1, Try.zeroCells29.toList, 29), (w.heap.size + 1, [vw, .slice am ms.length cm], 87), (w.heap.size, m.cells, 29)] [] ∧ Hid (∀ k, k < j → isM ms M k = false)) (fun i _ => ms.length - (intOf i).toNat)
    case atStart => exact ⟨0, Nat.zero_le _, rfl, HM3.out, fun k hk => by omega⟩
    case round =>
      clear HM3
      obtain ⟨j, hj, rfl, hM, HN⟩ := hrel
      have ej : IntKind.i64.wrap ((j : Int) + 1) = (j : Int) + 1 := IntWalk.i64_in _ (by omega)
      have cl := (hM.at 2 rfl).cell' (i := 1) rfl
      have HM := Lib.hid hM
      by_cases hlt : j < ms.length
      · obtain ⟨M', hM'⟩ : ∃ M', ms[j]? = some M' := ⟨_, List.getElem?_eq_getElem hlt⟩
        have hM2 := hM'
        obtain ⟨ga, rfl, -⟩ := HH.out wr _ hM j M' hM'
        have hW' := HMS.out M' (List.mem_of_getElem? hM')
        have HIM2 := Lib.hid (mach_infoT hW')
        have HEQ : Hid (∀ W, (Op.equalIn 10000 29 (.agg M'.cells.toArray) (.agg M.cells.toArray)).run Try.prog W = .ok (isM ms M j) W) := fun W => by
          have e : isM ms M j = eqM M M' := by rw [isM, hM']
          rw [e, eqM_comm]; exact eql_mach hW' HWF.out W
        have HSA : Hid (∀ W, Mg w.heap.size w W [(b9, M.cells, 29), (w.heap.size + 1 + 1, Try.zeroCells29.toList, 29), (w.heap.size + 1, [vw, .slice (some ⟨ga, 0, none⟩) ms.length cm], 87), (w.heap.size, m.cells, 29)] [] → W.rangeAt b9 0 M.cells ∧ W.cell? ⟨w.heap.size + 1, 1, none⟩ = some (.slice (some ⟨ga, 0, none⟩) ms.length cm) ∧ W.rangeAt ga (j * 98) M'.cells) := fun W h => by
          obtain ⟨g', e, hA⟩ := HH.out W _ h j M' hM'
          injection e with e
          injection e with e
          subst e
          exact ⟨(h.at 0 rfl).all, (h.at 2 rfl).cell' (i := 1) rfl, hA⟩
        have i1 : (0 : Int) ≤ (j : Int) := by omega
        have i2 : (j : Int) < (ms.length : Int) := by omega
        have HIS : Hid (isM ms M j = isM ms M j) := rfl
        have HNX : Hid (isM ms M j = false → ∀ k, k < j + 1 → isM ms M k = false) := fun h k hk => by
          by_cases e : k = j
          · subst e; exact h
          · exact HN.out k (by omega)
        have HPX : Hid (isM ms M j = true → posM ms M = (j : Int)) := fun h => idxN_hit hlt h HN.out
        generalize isM ms M j = eb at *
        have HMd := Lib.hid (hM.drewN 1)
        clear hM hM' hM2 HIS HN hW' HM
        go_wp2_with fail
        have HMe : Hid (Mg w.heap.size w wr.drew [(b9, M.cells, 29), (w.heap.size + 1 + 1, Try.zeroCells29.toList, 29), (w.heap.size + 1, [vw, .slice (some ⟨ga, 0, none⟩) ms.length cm], 87), (w.heap.size, m.cells, 29)] []) := HMd.out
        clear cl HMd
        refine region_A (fun W => W.rangeAt b9 0 M.cells ∧ W.cell? ⟨w.heap.size + 1, 1, none⟩ = some (.slice (some ⟨ga, 0, none⟩) ms.length cm) ∧ W.rangeAt ga (j * 98) M'.cells) [] 7 (fun W => Mg w.heap.size w W [(b9, M.cells, 29), (w.heap.size + 1 + 1, Try.zeroCells29.toList, 29), (w.heap.size + 1, [vw, .slice (some ⟨ga, 0, none⟩) ms.length cm], 87), (w.heap.size, m.cells, 29)] []) rfl HMX.out HMe.out HSA.out (fun W hM hU => ?_)
        clear HMe
        (refine AnyS.take (i := 0) rfl (by kernel_rfl) (by kernel_rfl) (by kernel_rfl) (by rfl) (fun _ _ _ h => h) (by rfl) (by intro w; go_simp; with_reducible rfl) hU (fun hU => ?_); (try simp only [Act.put, List.setIfInBounds_toArray, List.set_cons_zero, List.set_cons_succ]))
        (refine AnyS.takeS (i := 1) rfl (by kernel_rfl) (by kernel_rfl) (by kernel_rfl) (by rfl) (by kernel_rfl) (by kernel_rfl) (fun _ _ _ h => h) (by rfl) (by intro W hSw; have h1 := hSw.2.1; clear hSw; go_simp; with_reducible rfl) hU (fun hU => ?_); (try simp only [Act.put, List.setIfInBounds_toArray, List.set_cons_zero, List.set_cons_succ]))
        (refine AnyS.take (i := 2) rfl (by kernel_rfl) (by kernel_rfl) (by kernel_rfl) (by rfl) (fun _ _ _ h => h) (by rfl) (by intro w; go_simp; with_reducible rfl) hU (fun hU => ?_); (try simp only [Act.put, List.setIfInBounds_toArray, List.set_cons_zero, List.set_cons_succ]); refine AnyS.take (i := 3) rfl (by kernel_rfl) (by kernel_rfl) (by kernel_rfl) (by rfl) (fun _ _ _ h => h) (by rfl) (by intro w; go_simp; with_reducible rfl) hU (fun hU => ?_); (try simp only [Act.put, List.setIfInBounds_toArray, List.set_cons_zero, List.set_cons_succ]))
        (refine AnyS.takeS (i := 4) rfl (by kernel_rfl) (by kernel_rfl) (by kernel_rfl) (by rfl) (by kernel_rfl) (by kernel_rfl) (fun _ _ _ h => h) (by rfl) (fun W hW => run_ld Try.underlying29 rfl HIM2.out (.tmp 32) rfl rfl hW.2.2) hU (fun hU => ?_); (try simp only [Act.put, List.setIfInBounds_toArray, List.set_cons_zero, List.set_cons_succ]))
        (refine AnyS.takeS (i := 5) rfl (by kernel_rfl) (by kernel_rfl) (by kernel_rfl) (by rfl) (by kernel_rfl) (by kernel_rfl) (fun _ _ _ h => h) (by rfl) (fun W hW => run_ld Try.underlying29 rfl HIM.out (.tmp 9) rfl rfl hW.1) hU (fun hU => ?_); (try simp only [Act.put, List.setIfInBounds_toArray, List.set_cons_zero, List.set_cons_succ]))
        (refine AnyS.takeS (i := 6) rfl (by kernel_rfl) (by kernel_rfl) (by kernel_rfl) (by rfl) (by kernel_rfl) (by kernel_rfl) (fun _ _ _ h => h) (by rfl) (fun W hW => ex_eql rfl HGT.out HEQ.out rfl rfl W) hU (fun hU => ?_); (try simp only [Act.put, List.setIfInBounds_toArray, List.set_cons_zero, List.set_cons_succ]))
        refine AnyS.done (by kernel_rfl) ?_ _
        clear hU HEQ
        have HM := Lib.hid hM
        clear hM
        cases eb
        · have HN2 := Lib.hid (HNX.out rfl)
          clear HNX HPX
          go_wp2_with fail
          go_roundw
          case rel => exact ⟨j + 1, by omega, by go_num, HM.out, HN2.out⟩
          case measure => simp [intOf] <;> omega
        · have HPO := Lib.hid (HPX.out rfl)
          have HMe : Hid (Mg w.heap.size w W.drew [(b9, M.cells, 29), (w.heap.size + 1 + 1, Try.zeroCells29.toList, 29), (w.heap.size + 1, [vw, .slice (some ⟨ga, 0, none⟩) ms.length cm], 87), (w.heap.size, m.cells, 29)] []) := HM.out.drewN 1
          clear HNX HPX HM
          go_wp2_with fail
          refine region_A (fun W => W.rangeAt b9 0 M.cells) [3] 5 (fun W => Mg w.heap.size w W [(b9, M.cells, 29), (w.heap.size + 1 + 1, Try.zeroCells29.toList, 29), (w.heap.size + 1, [vw, .slice (some ⟨ga, 0, none⟩) ms.length cm], 87), (w.heap.size, m.cells, 29)] []) rfl HMX.out HMe.out (fun W h => (h.at 0 rfl).all) (fun W hM hU => ?_)
          clear HMe
          (refine AnyS.take (i := 0) rfl (by kernel_rfl) (by kernel_rfl) (by kernel_rfl) (by rfl) (fun _ _ _ h => h) (by rfl) (by intro w; go_simp; with_reducible rfl) hU (fun hU => ?_); (try simp only [Act.put, List.setIfInBounds_toArray, List.set_cons_zero, List.set_cons_succ]))
          (refine AnyS.takeS (i := 1) rfl (by kernel_rfl) (by kernel_rfl) (by kernel_rfl) (by rfl) (by kernel_rfl) (by kernel_rfl) (fun _ _ _ h => h) (by rfl) (fun W hW => run_ld Try.underlying29 rfl HIM.out (.tmp 9) rfl rfl hW) hU (fun hU => ?_); (try simp only [Act.put, List.setIfInBounds_toArray, List.set_cons_zero, List.set_cons_succ]))
          (refine AnyS.take (i := 2) rfl (by kernel_rfl) (by kernel_rfl) (by kernel_rfl) (by rfl) (fun _ _ _ h => h) (by rfl) (by intro w; go_simp; with_reducible rfl) hU (fun hU => ?_); (try simp only [Act.put, List.setIfInBounds_toArray, List.set_cons_zero, List.set_cons_succ]))
          (refine AnyS.branch (rs := [3]) (by kernel_rfl) (List.cons_ne_nil _ _) ?_; refine AllS.cons rfl ?_ AllS.nil; intro K hK)
          have ht := (hM.at 1 rfl).there 0 M.cells.length (by simp only; rw [zero_len, HML.out]; omega)
          have hM4 := hM.setAll 1 rfl (vs := M.cells) (by rw [zero_len, HML.out])
          refine st_rowQ (by rfl) 29 (.tmp 7) (.tmp 37) rfl (w.heap.size + 1 + 1) 0 M.cells rfl rfl ht HIM.out HOM.out ?_
          refine hK.out _ _ (.inl (hM4.at 0 rfl).all) (fun hU => ?_)
          clear hK K hM ht
          (try simp only [Act.put, List.setIfInBounds_toArray, List.set_cons_zero, List.set_cons_succ])
          (refine AnyS.take (i := 4) rfl (by kernel_rfl) (by kernel_rfl) (by kernel_rfl) (by rfl) (fun _ _ _ h => h) (by rfl) (by intro w; go_simp; with_reducible rfl) hU (fun hU => ?_); (try simp only [Act.put, List.setIfInBounds_toArray, List.set_cons_zero, List.set_cons_succ]))
          refine AnyS.done (by kernel_rfl) ?_ _
          clear hU
          have HB := Lib.hid (hM4.at 1 rfl)
          have hb := hM4.below
          clear hM4
          go_wp2_with fail
          refine bodyPost_ret (v := .tuple #[.int .i64 (j : Int), .agg M.cells.toArray, .int .i64 0]) (results_tct Try.results79 _ _ (w.heap.size + 1 + 1) 29 M.cells.toArray (0, 0) (.struct _) rfl HB.out Try.underlying29 rfl HI6.out) rfl ?_
          rw [HP.out]
          exact ⟨hb, by show _ = _; rw [HPO.out]⟩
      · have HPO : Hid (posM ms M = -1) := idxN_none fun k hk => HN.out k (by omega)
        have hj' : ¬ (j : Int) < ms.length := by omega
        have HMe : Hid (Mg w.heap.size w wr.drew [(b9, M.cells, 29), (w.heap.size + 1 + 1, Try.zeroCells29.toList, 29), (w.heap.size + 1, [vw, .slice am ms.length cm], 87), (w.heap.size, m.cells, 29)] []) := hM.drewN 1
        clear hM HM
        go_wp2_with fail
        clear cl
        refine region_A (fun W => W.rangeAt b9 0 M.cells) [2] 4 (fun W => Mg w.heap.size w W [(b9, M.cells, 29), (w.heap.size + 1 + 1, Try.zeroCells29.toList, 29), (w.heap.size + 1, [vw, .slice am ms.length cm], 87), (w.heap.size, m.cells, 29)] []) rfl HMX.out HMe.out (fun W h => (h.at 0 rfl).all) (fun W hM hU => ?_)
        clear HMe
        (refine AnyS.takeS (i := 0) rfl (by kernel_rfl) (by kernel_rfl) (by kernel_rfl) (by rfl) (by kernel_rfl) (by kernel_rfl) (fun _ _ _ h => h) (by rfl) (fun W hW => run_ld Try.underlying29 rfl HIM.out (.tmp 9) rfl rfl hW) hU (fun hU => ?_); (try simp only [Act.put, List.setIfInBounds_toArray, List.set_cons_zero, List.set_cons_succ]))
        (refine AnyS.take (i := 1) rfl (by kernel_rfl) (by kernel_rfl) (by kernel_rfl) (by rfl) (fun _ _ _ h => h) (by rfl) (by intro w; go_simp; with_reducible rfl) hU (fun hU => ?_); (try simp only [Act.put, List.setIfInBounds_toArray, List.set_cons_zero, List.set_cons_succ]))
        (refine AnyS.branch (rs := [2]) (by kernel_rfl) (List.cons_ne_nil _ _) ?_; refine AllS.cons rfl ?_ AllS.nil; intro K hK)
        have ht := (hM.at 1 rfl).there 0 M.cells.length (by simp only; rw [zero_len, HML.out]; omega)
        have hM4 := hM.setAll 1 rfl (vs := M.cells) (by rw [zero_len, HML.out])
        refine st_rowQ (by rfl) 29 (.tmp 7) (.tmp 38) rfl (w.heap.size + 1 + 1) 0 M.cells rfl rfl ht HIM.out HOM.out ?_
        refine hK.out _ _ (.inl (hM4.at 0 rfl).all) (fun hU => ?_)
        clear hK K hM ht
        (try simp only [Act.put, List.setIfInBounds_toArray, List.set_cons_zero, List.set_cons_succ])
        (refine AnyS.take (i := 3) rfl (by kernel_rfl) (by kernel_rfl) (by kernel_rfl) (by rfl) (fun _ _ _ h => h) (by rfl) (by intro w; go_simp; with_reducible rfl) hU (fun hU => ?_); (try simp only [Act.put, List.setIfInBounds_toArray, List.set_cons_zero, List.set_cons_succ]))
        refine AnyS.done (by kernel_rfl) ?_ _
        clear hU
        have HB := Lib.hid (hM4.at 1 rfl)
        have hb := hM4.below
        clear hM4
        go_wp2_with fail
        refine bodyPost_ret (v := .tuple #[.int .i64 (-1), .agg M.cells.toArray, .int .i64 0]) (results_tct Try.results79 _ _ (w.heap.size + 1 + 1) 29 M.cells.toArray (0, 0) (.struct _) rfl HB.out Try.underlying29 rfl HI6.out) rfl ?_
        rw [HP.out]
        exact ⟨hb, by show _ = _; rw [HPO.out]⟩
end Go.Proofs.Yteagecoiijhflaa

/- append of an element that lies in a block of one's own. -/
namespace Go.Proofs.Yteagecoiijhflaa
open Go.RowKit
set_option linter.unusedVariables false
set_option linter.unusedSimpArgs false
section
variable {B : Nat} {w0 w : World} {L : List (Nat × List Value × TypeId)} {G : List Gr}
theorem addr_add (g j : Nat) : (⟨g, 0, none⟩ : Addr).add j = ⟨g, j, none⟩ := by unfold Addr.add; split <;> simp_all
/-- as Mg.appendO; the element's cells lie in the block number q of L -/
theorem Mg.appendQ {P : Program} {ops : Array Oper} {o : Oper} {a : Act} {K : Act → World → Prop} {Q : Exit → Act → World → Prop} (hwd : Region.wanted o (yielded ops a.tmps) = true) (s x : Operand) (t : TypeId)
    (ho : o.op = .call { callee := .builtin .append, args := #[s, x], argTypes := #[t, t] })
    (h : Mg B w0 w L G) (i : Nat) {v : Value} {E sz n : Nat} {xs : List Value} (hi : G[i]? = some ⟨v, E, sz, n, xs⟩) {i0 : TypeInfo} {z : Value} {bytes : Nat} (ht : P.underlying t = some (.slice E)) (hI : P.info? E = some i0) (hz : i0.zero = some z)
    (hsize : i0.size = sz) (hby : i0.bytes = bytes) (hzs : z.cells.size = sz) (hp : 0 < sz) (q : Nat) {b : Nat} {ps : List Value} {T : TypeId} (hq : L[q]? = some (b, ps, T)) (hul : ps.length = sz) (hs : a.eval s = v) (hx : a.eval x = .slice (some ⟨b, 0, none⟩) 1 1) (hu : ∀ u ∈ ps, u.oneCell' = true)
    (hlen : n ≤ 1000000) (hbytes : bytes ≤ 1000)
    (hk : ∀ g cap w', Mg B w0 w' L (G.set i ⟨.slice (some ⟨g, 0, none⟩) (n + 1) cap, E, sz, n + 1, xs ++ ps⟩) → Old w w' v n sz → (v.ownBlock = some g ∨ w.heap.size ≤ g) → w.heap.size ≤ w'.heap.size → K (a.put o.dst (.slice (some ⟨g, 0, none⟩) (n + 1) cap)) w') :
    if Region.wanted o (yielded ops a.tmps) = true then Oper.wp P o a w K Q else K (a.put o.dst undef) w := by
  rw [if_pos hwd]
  have hown := h.row i hi
  obtain ⟨g, cap, w', hr, a1, a2, a4⟩ := run_keeps (P := P) w t o.type B E i0 z sz bytes ht hI hz hsize hby hzs hp v n xs hown ⟨b, 0, none⟩ 1 1 ps (by omega) (fun j y hj => by
      rw [addr_add]
      exact (h.at q hq).cell' hj) hu (by omega) (by simp [maxLen]; omega) (by
      calc (n + 1) * bytes ≤ 1000001 * 1000 := Nat.mul_le_mul (by omega) hbytes
        _ ≤ _ := by omega) h.size
  have hM := h.grow2 i hi a1 a2 (by
    rcases a4 with e | ⟨e, -⟩
    · exact .inl e.symm
    · exact .inr (by rw [e]; rfl))
  have hOld : Old w w' v n sz := fun k j u hc hlt => by
    have hkw : k < w.heap.size := World.block_lt_of_cell? w _ hc
    by_cases hv : v.ownBlock = some k
    · rcases a4 with e | ⟨e, h3⟩
      · rw [hv] at e; injection e with e; subst e
        have hj := hlt hv
        have hxl := hown.1
        simp only at hxl
        have hxj : xs[j]? = some u := by
          have hj2 : j < xs.length := by rw [hxl]; exact hj
          have h5 := World.ownsRow.cells hown hv j xs[j] (List.getElem?_eq_getElem hj2)
          rw [addr_add, hc] at h5
          rw [List.getElem?_eq_getElem hj2, h5]
        have h6 := World.ownsRow.cells a1 (g := k) rfl j u (by rw [List.getElem?_append_left (List.getElem?_eq_some_iff.1 hxj).1]; exact hxj)
        rwa [addr_add] at h6
      · exact (World.cell?_of_block (w := w) (a := ⟨k, j, none⟩) (h3 k hkw)).trans hc
    · exact (World.cell?_of_block (w := w) (a := ⟨k, j, none⟩) (a2.block k hkw (Ne.symm hv))).trans hc
  unfold Oper.wp execOp
  simp only [ho, resolve, invoke, builtin, Sem.run_bind, Sem.run_pure, Result.andThen_ok, List.map_toArray, List.map_cons, List.map_nil, hs, hx, hr]
  exact (hk g cap w' hM hOld (a4.imp id fun h => Nat.le_of_eq h.1.symm) a2.size)

/-- what is kept while rows vw and vm (of n elements) are grown -/
def KeepR (w w' : World) (vw vm : Value) (n : Nat) : Prop := w.heap.size ≤ w'.heap.size ∧ ∀ (k j : Nat) (u : Value), w.cell? ⟨k, j, none⟩ = some u → (vw.ownBlock = some k → j < n * 1) → (vm.ownBlock = some k → j < n * 98) → w'.cell? ⟨k, j, none⟩ = some u
theorem KeepR.refl (w : World) (vw vm : Value) (n : Nat) : KeepR w w vw vm n := ⟨Nat.le_refl _, fun _ _ _ h _ _ => h⟩
theorem KeepR.below {w w1 w2 : World} {vw vm : Value} {n : Nat} (h : KeepR w w1 vw vm n) (hb : Below w1.heap.size w1 w2) : KeepR w w2 vw vm n :=
  ⟨Nat.le_trans h.1 hb.size, fun k j u hc h1 h2 => by
    have h3 := h.2 k j u hc h1 h2
    exact (hb.cell (World.block_lt_of_cell? _ _ h3)).trans h3⟩
theorem KeepR.alloc {w w1 : World} {vw vm : Value} {n : Nat} (h : KeepR w w1 vw vm n) (o : Obj) : KeepR w (w1.alloc o) vw vm n := h.below ((Below.refl _ _).alloc (Nat.le_refl _) _)
theorem KeepR.old1 {w w1 w2 : World} {vw vm : Value} {n : Nat} (h : KeepR w w1 vw vm n) (ho : Old w1 w2 vw n 1) (hs : w1.heap.size ≤ w2.heap.size) : KeepR w w2 vw vm n :=
  ⟨Nat.le_trans h.1 hs, fun k j u hc h1 h2 => ho k j u (h.2 k j u hc h1 h2) h1⟩
theorem KeepR.old2 {w w1 w2 : World} {vw vm : Value} {n : Nat} (h : KeepR w w1 vw vm n) (ho : Old w1 w2 vm n 98) (hs : w1.heap.size ≤ w2.heap.size) : KeepR w w2 vw vm n :=
  ⟨Nat.le_trans h.1 hs, fun k j u hc h1 h2 => ho k j u (h.2 k j u hc h1 h2) h2⟩
/-- an older header of the words can still be read -/
structure Hdr (w : World) (b : Nat) (vw vm : Value) (n gw : Nat) (xs : List Value) : Prop where
  cell : ∀ (j : Nat) (v : Value), xs[j]? = some v → w.cell? ⟨gw, j, none⟩ = some v
  len : vw.ownBlock = some gw → xs.length ≤ n
  vm : vm.ownBlock ≠ some gw
  ne : gw ≠ b
  lt : gw < w.heap.size
theorem Hdr.keep {w w' : World} {b gw n n' : Nat} {vw vm vw' vm' : Value} {xs : List Value} (h : Hdr w b vw vm n gw xs) (hk : KeepR w w' vw vm n) (hn : n ≤ n')
    (hw : vw'.ownBlock = vw.ownBlock ∨ ∃ k, vw'.ownBlock = some k ∧ w.heap.size ≤ k) (hm : vm'.ownBlock = vm.ownBlock ∨ ∃ k, vm'.ownBlock = some k ∧ w.heap.size ≤ k) : Hdr w' b vw' vm' n' gw xs := by
  have hlt := h.lt
  refine ⟨fun j v hj => hk.2 _ _ _ (h.cell j v hj) (fun e => ?_) (fun e => absurd e h.vm), fun e => ?_, fun e => ?_, h.ne, Nat.lt_of_lt_of_le hlt hk.1⟩
  · have := h.len e
    have := (List.getElem?_eq_some_iff.1 hj).1
    omega
  · rcases hw with hw | ⟨k, hw, hk⟩
    · exact Nat.le_trans (h.len (hw ▸ e)) hn
    · rw [hw] at e; injection e with e; omega
  · rcases hm with hm | ⟨k, hm, hk⟩
    · exact h.vm (hm ▸ e)
    · rw [hm] at e; injection e with e; omega
theorem Hdr.other {w : World} {b gw n : Nat} {vw vm : Value} {xs : List Value} (h : Hdr w b vw vm n gw xs) (o : Nat) (v : Value) : Hdr (w.setCell ⟨b, o, none⟩ v) b vw vm n gw xs := by
  refine ⟨fun j u hj => ?_, h.len, h.vm, h.ne, by simpa using h.lt⟩
  have h1 := h.cell j u hj
  refine (World.cell?_of_block (w := w) (a := ⟨gw, j, none⟩) ?_).trans h1
  exact Below.heap_setCell w _ _ _ h.ne
end
end Go.Proofs.Yteagecoiijhflaa
