import Derived.Test.YthgkkaifdlkciaaYKind08
import Derived.Test.YthgkkaifdlkciaaYKind07
import Derived.Test.YthgkkaifdlkciaaYKind06
import Derived.Maps.AppendAt
/- (*table).machineFrom: the machine of state 0 of a table. -/
namespace Go.Proofs.Ythgkkaifdlkciaa
open Go.RowKit
set_option linter.unusedVariables false
set_option linter.unusedSimpArgs false

/-- the beginning of a region in drawn order, the world a letter of which Φ is known -/
theorem region_A {P : Program} {ops : Array Oper} {Q : Exit → Act → World → Prop} {id : Nat} {a : Act} {w : World} (S : World → Prop) (L : List Nat) (n : Nat) (Φ : World → Prop) (hn : ops.size = n) (hm : P.follows .mixedOrders = true) (hΦ : Φ w.drew) (hS : ∀ w, Φ w → S w)
    (h : ∀ w, Φ w → Upto S L (Array.replicate n false) w → AnyS P .any ops Q S L n (Array.replicate n false) a w) : (Code.region id ops true).wp P Q a w :=
  region_S S L n hn hm (hS _ hΦ) fun hU => h _ hΦ hU
theorem results_ct {P : Program} {fn : Func} {p q : Tmp} {ty : TypeId} (h : fn.results = #[.cell p ty, .tmp q]) (tmps : Array Value) (w : World) (g : Nat) (t : TypeId) (cs : Array Value) (fr : Nat × Nat) (d : TypeDesc)
    (hp : tmps.getD p undef = .pointer (some ⟨g, 0, none⟩)) (hg : w.heap[g]? = some (.cells cs t fr))
    (hu : P.underlying ty = some d) (hd : (match d with | .struct _ | .array _ _ => true | _ => false) = true) (hi : (P.info? ty).map (·.size) = some cs.size) :
    (results fn tmps).run P w = .ok (.tuple #[.agg cs, tmps.getD q undef]) w := by
  have hp' : tmps[p]?.getD undef = .pointer (some ⟨g, 0, none⟩) := by simpa using hp
  simp [results, h, hp', asAddr, run_loadVar_row w g t ty cs fr d hg hu hd hi]
theorem natsI_len (S : List Nat) : (natsI S).length = S.length := by simp [natsI]
theorem natsI_get {S : List Nat} {i : Nat} (h : i < S.length) : (natsI S)[i]?.getD 0 = ((S[i]?.getD 0 : Nat) : Int) := by simp [natsI, List.getElem?_map, List.getElem?_eq_getElem h]
theorem natsI_mem {S : List Nat} {r : Nat} : (r : Int) ∈ natsI S ↔ r ∈ S := by
  simp only [natsI, List.mem_map]
  constructor
  · rintro ⟨x, hx, e⟩
    have : x = r := by omega
    rw [← this]; exact hx
  · intro h; exact ⟨r, h, rfl⟩
theorem natsI_idx (r : Nat) : ∀ S : List Nat, (natsI S).idxOf (r : Int) = S.idxOf r
  | [] => rfl
  | x :: S => by
    have ih := natsI_idx r S
    simp only [natsI, List.map_cons, List.idxOf_cons] at ih ⊢
    by_cases e : x = r
    · subst e; simp
    · have e1 : (x == r) = false := by simpa using e
      have e2 : ((x : Int) == (r : Int)) = false := by simp; omega
      rw [e1, e2]
      simp only [cond_false]
      rw [ih]
theorem idxI_nats {S : List Nat} {r : Nat} (h : r ∈ S) : idxI (natsI S) (r : Int) = (S.idxOf r : Int) := by
  rw [idxI, if_pos (natsI_mem.2 h), natsI_idx]
end Go.Proofs.Ythgkkaifdlkciaa

/- reached: which states are reached, of the program. -/
namespace Go.Proofs.Ythgkkaifdlkciaa
open Go.RowKit
set_option linter.unusedVariables false
set_option linter.unusedSimpArgs false

set_option maxRecDepth 100000 in
set_option maxHeartbeats 400000 in
theorem reached_any (M : Mch) (hwf : M.Wf) (hok : M.Ok) (gN cN : Nat) (q : Nat) (hq : q < M.s) (w : World)
    (hrow : ∀ q, q < M.s → ∃ g c, w.cell? ⟨gN, q, none⟩ = some (.slice (some ⟨g, 0, none⟩) M.l c) ∧ ∀ x, x < M.l → w.cell? ⟨g, x, none⟩ = some (.int .i64 (M.nn q x))) :
    Calls Try.prog 75 #[.slice (some ⟨gN, 0, none⟩) M.s cN, .int .i64 (q : Int)] w fun e w' => ∃ b, e = .returned (.slice (some ⟨b, 0, none⟩) M.s M.s) ∧ Below w.heap.size w w' ∧ w.heap.size ≤ b ∧ Blk w' b (bvs M.s (M.tbl.rb q)) 4 := by
  obtain ⟨i0, hi0, hz0, hz1, hz2⟩ := info_parts Try.info2
  have hs16 := hok.s_le
  have hl3 := hok.l_le
  have hmk := mk_bool M.s (by omega) w
  have hM0 := (Mm.start w).alloc (madeCells #[.bool false] M.s) 4
  rw [made_bool] at hM0
  have HM1 : Hid (Mm w.heap.size w ((w.alloc (.cells (madeCells #[.bool false] M.s) 4)).alloc (.cells #[.int .i64 (q : Int)] 2)) [(w.heap.size, bvs M.s fun _ => false, 4)] [(.slice (some ⟨w.heap.size + 1, 0, none⟩) 1 1, 2, i64s (natsI [q]))]) := by
    have h := hM0.newOwn #[.int .i64 (q : Int)] 2 1 rfl (by omega)
    rw [World.size_alloc] at h
    exact h
  have HR := Lib.hid hrow
  have HLT : Hid (∀ z x, z < M.s → x < M.l → M.nn z x < M.s) := fun z x hz hx => hok.nn_lt hwf hz hx
  have HWF : Hid M.tbl.Wf := Mch.tbl_wf hok hwf
  have HI0 := Lib.hid (RInv.start M.tbl q)
  clear hM0 hrow
  go_enter Try.func75, Try.ntmps75
  go_wp2_with fail
  clear hmk
  generalize hB0 : w.heap.size = B0 at *
  go_loopw [6, 7] (fun v6 iv wr => ∃ (P : List Nat) (mk : Nat → Bool) (i : Nat), i ≤ P.length + 1 ∧ iv = .int .i64 (i : Int) ∧ Hid (RInv M.tbl q i P mk) ∧ Mm B0 w wr [(B0, bvs M.s mk, 4)] [(v6, 2, i64s (natsI (q :: P)))]) (fun _ iv _ => M.s + 2 - (intOf iv).toNat)
  case atStart => exact ⟨[], fun _ => false, 0, Nat.zero_le _, rfl, HI0.out, HM1.out⟩
  case round =>
    clear HM1 HI0
    obtain ⟨P, mk, i, hi, rfl, HI, hM⟩ := hrel
    have hPl := HI.out.len
    change P.length ≤ M.s at hPl
    have ei : IntKind.i64.wrap ((i : Int) + 1) = (i : Int) + 1 := IntWalk.i64_in _ (by omega)
    obtain ⟨a6, c6, rfl, -⟩ := (OwnI.of_row (hM.own _ (List.mem_cons_self ..))).form
    have hql : (natsI (q :: P)).length = P.length + 1 := by simp [natsI]
    rw [hql] at hM ⊢
    by_cases hlt : i < P.length + 1
    · obtain ⟨z, hz⟩ : ∃ z, z = (q :: P)[i]?.getD 0 := ⟨_, rfl⟩
      have hat := HI.out.at hq (by simpa using hlt)
      rw [← hz] at hat
      have hzs : z < M.s := hat.1
      have hIA : IntsAt wr a6 (natsI (q :: P)) := hM.intsAt 0 rfl
      obtain ⟨bb, off, rfl, c1⟩ := hIA i (by rw [hql]; exact hlt)
      rw [natsI_get (by simpa using hlt), ← hz] at c1
      obtain ⟨g, cg, c2, c3⟩ := HR.out z hzs
      have HC3 := Lib.hid c3
      have c2 := (hM.below.cell (by rw [← hB0]; exact World.block_lt_of_cell? _ _ c2)).trans c2
      have HZ : Hid ((q :: P)[i]?.getD 0 = z) := hz.symm
      have HB : Hid (RInv2 M.tbl q i 0 P mk) := HI.out.begin
      have i1 : (0 : Int) ≤ (i : Int) := by omega
      have i2 : (i : Int) < (P.length : Int) + 1 := by omega
      have z1 : (0 : Int) ≤ (z : Int) := by omega
      have z2 : (z : Int) < (M.s : Int) := by omega
      have HM := Lib.hid hM
      clear hM hIA hat hz HI
      go_wp2_with fail
      clear c1 c2
      go_loopw [6, 29] (fun v6 xv wx => ∃ (P : List Nat) (mk : Nat → Bool) (x : Nat), x ≤ M.l ∧ xv = .int .i64 (x : Int) ∧ Hid (RInv2 M.tbl q i x P mk) ∧ Hid ((q :: P)[i]?.getD 0 = z) ∧ Hid (i < P.length + 1) ∧ Mm B0 w wx [(B0, bvs M.s mk, 4)] [(v6, 2, i64s (natsI (q :: P)))]) (fun _ xv _ => M.l - (intOf xv).toNat)
      case atStart => exact ⟨P, mk, 0, Nat.zero_le _, rfl, HB.out, HZ.out, hlt, HM.out⟩
      case round =>
        clear HM HB HZ hPl hlt hi hql i2
        obtain ⟨P, mk, x, hx, rfl, HI, HZ, HL, hM⟩ := hrel
        have hPl := HI.out.toRInv.len
        change P.length ≤ M.s at hPl
        have ex : IntKind.i64.wrap ((x : Int) + 1) = (x : Int) + 1 := IntWalk.i64_in _ (by omega)
        by_cases hxl : x < M.l
        · obtain ⟨y, hy⟩ : ∃ y, y = M.nn z x := ⟨_, rfl⟩
          have hys : y < M.s := by rw [hy]; exact HLT.out z x hzs hxl
          have c3 := HC3.out x hxl
          rw [← hy] at c3
          have c3 := (hM.below.cell (by rw [← hB0]; exact World.block_lt_of_cell? _ _ c3)).trans c3
          have d1 := (hM.at 0 rfl).cell' (bvs_get mk hys)
          have f1 := (hM.at 0 rfl).free y
          have x1 : (0 : Int) ≤ (x : Int) := by omega
          have x2 : (x : Int) < (M.l : Int) := by omega
          have y1 : (0 : Int) ≤ (y : Int) := by omega
          have y2 : (y : Int) < (M.s : Int) := by omega
          have HY : Hid (M.tbl.nx ((q :: P)[i]?.getD 0) x = y) := by show _ = _; rw [HZ.out]; exact hy.symm
          cases hm : mk y with
          | true =>
            rw [hm] at d1
            have HI2 : Hid (RInv2 M.tbl q i (x + 1) P mk) := HI.out.old (by rw [HY.out]; exact hm)
            have HM := Lib.hid hM
            clear hM hm hy
            go_wp2_with fail
            go_roundw
            case rel => exact ⟨P, mk, x + 1, by omega, by go_num, HI2.out, HZ.out, HL.out, HM.out⟩
            case measure => simp [intOf] <;> omega
          | false =>
            rw [hm] at d1
            have HI2 : Hid (RInv2 M.tbl q i (x + 1) (P ++ [y]) (upd mk y true)) := HI.out.new HWF.out hq (by simpa using HL.out) hxl HY.out hm
            have HZ2 : Hid ((q :: (P ++ [y]))[i]?.getD 0 = z) := by
              show _ = _
              rw [← List.cons_append, List.getElem?_append_left (by simpa using HL.out)]; exact HZ.out
            have HL2 : Hid (i < (P ++ [y]).length + 1) := by show _ < _; rw [List.length_append]; have := HL.out; omega
            have hM2 := hM.setCell 0 rfl y (.bool true)
            simp only [List.set_cons_zero] at hM2
            rw [bvs_set _ _ hys] at hM2
            have hnl : (i64s (natsI (q :: P))).length ≤ 1000000 := by simp [i64s, natsI]; omega
            clear hM hm hy
            go_wp2_with (at_builtin; refine Mm.appendAt rfl (.tmp 41) (.tmp 43) 31 rfl hM2 0 rfl Try.underlying31 hi0 hz0 hz1 hz2 rfl rfl wr.heap.size (by simp) rfl rfl hnl (by omega) ?_)
            intro g6 c7 w6 hM6
            (try simp only [List.set_cons_zero] at hM6)
            have HM6 : Hid (Mm B0 w w6 [(B0, bvs M.s (upd mk y true), 4)] [(.slice (some ⟨g6, 0, none⟩) ((i64s (natsI (q :: P))).length + 1) c7, 2, i64s (natsI (q :: (P ++ [y])))) ]) := by
              show Mm _ _ _ _ _
              simpa [i64s, natsI] using hM6
            clear hM2 hM6 d1 f1
            go_wp2_with fail
            go_roundw
            case rel => exact ⟨P ++ [y], _, x + 1, by omega, by go_num, HI2.out, HZ2.out, HL2.out, HM6.out⟩
            case measure => simp [intOf] <;> omega
        · have hx' : x = M.l := by omega
          subst hx'
          have x2 : ¬ ((M.l : Int) < (M.l : Int)) := by omega
          have HI2 : Hid (RInv M.tbl q (i + 1) P mk) := HI.out.fin
          have HM := Lib.hid hM
          have hil := HL.out
          clear hM
          go_wp2_with fail
          go_roundw
          case rel => exact ⟨P, mk, i + 1, by omega, by go_num, HI2.out, HM.out⟩
          case measure => simp [intOf] <;> omega
    · have hi' : i = P.length + 1 := by omega
      subst hi'
      have i2 : ¬ (((P.length + 1 : Nat) : Int) < ((P.length + 1 : Nat) : Int)) := by omega
      have HF : Hid (mk = M.tbl.rb q) := funext fun r => HI.out.fin r
      have HM := Lib.hid hM
      clear hM HI
      go_wp2_with fail
      go_ret
      have hb := HM.out.at 0 rfl
      simp only at hb
      rw [HF.out] at hb
      exact ⟨B0, rfl, HM.out.below, Nat.le_refl _, hb⟩
end Go.Proofs.Ythgkkaifdlkciaa

/- The kinds of a machine's states in the memory; (*kinds).cycle. -/
namespace Go.Proofs.Ythgkkaifdlkciaa
open Go.RowKit
set_option linter.unusedVariables false
set_option linter.unusedSimpArgs false

/-- the kinds, but for the degrees -/
structure KndR (w : World) (K : Nat) (M : Mch) : Prop where
  tab : ∃ T, w.cell? ⟨K, 0, none⟩ = some (.pointer (some ⟨T, 0, none⟩)) ∧ TabR w T M
  trv : ∃ g c, w.cell? ⟨K, 1, none⟩ = some (.slice (some ⟨g, 0, none⟩) M.s c) ∧ ∀ q, q < M.s → w.cell? ⟨g, q, none⟩ = some (.bool (trivB M q))
  rch : ∃ g c, w.cell? ⟨K, 2, none⟩ = some (.slice (some ⟨g, 0, none⟩) M.s c) ∧ ∀ q, q < M.s → ∃ g' c', w.cell? ⟨g, q, none⟩ = some (.slice (some ⟨g', 0, none⟩) M.s c') ∧ ∀ r, r < M.s → w.cell? ⟨g', r, none⟩ = some (.bool (M.tbl.rb q r))
theorem KndR.map {w w' : World} {K : Nat} {M : Mch} (h : KndR w K M) (C : ∀ (a : Addr) (v : Value), w.cell? a = some v → w'.cell? a = some v) : KndR w' K M := by
  obtain ⟨⟨T, h1, gN, cN, gO, cO, t1, t2, t3, t4⟩, ⟨g, c, h2, h3⟩, ⟨g', c', h4, h5⟩⟩ := h
  refine ⟨⟨T, C _ _ h1, gN, cN, gO, cO, C _ _ t1, C _ _ t2, fun q hq => ?_, fun q hq => ?_⟩, ⟨g, c, C _ _ h2, fun q hq => C _ _ (h3 q hq)⟩, ⟨g', c', C _ _ h4, fun q hq => ?_⟩⟩
  · obtain ⟨a, b, e1, e2⟩ := t3 q hq; exact ⟨a, b, C _ _ e1, fun x hx => C _ _ (e2 x hx)⟩
  · obtain ⟨a, b, e1, e2⟩ := t4 q hq; exact ⟨a, b, C _ _ e1, fun x hx => C _ _ (e2 x hx)⟩
  · obtain ⟨a, b, e1, e2⟩ := h5 q hq; exact ⟨a, b, C _ _ e1, fun x hx => C _ _ (e2 x hx)⟩
theorem KndR.keep {w w' : World} {K : Nat} {M : Mch} (h : KndR w K M) (hb : Below w.heap.size w w') : KndR w' K M := h.map fun a v h => (hb.cell (World.block_lt_of_cell? w a h)).trans h
theorem KndR.uncut {w : World} {D K : Nat} {M : Mch} (h : KndR (cutD w D) K M) : KndR w K M := h.map fun a v h => cutD_cell h
theorem cyL_yes {M : Mch} {q : Nat} (h : M.tbl.cyB (trivB M) q = true) : M.tbl.cyL (trivB M) q = (List.range M.s).filter fun r => M.tbl.rb q r && M.tbl.rb r q := by rw [Tbl.cyL, if_pos h]; rfl
theorem cyL_off {M : Mch} {q : Nat} (h : M.tbl.cyB (trivB M) q = false) : M.tbl.cyL (trivB M) q = [] ∧ M.tbl.lines (trivB M) q = 0 := by
  have e : M.tbl.cyL (trivB M) q = [] := by rw [Tbl.cyL, if_neg (by simp [h])]
  exact ⟨e, by rw [Tbl.lines, e]; rfl⟩
def RetCy (M : Mch) (q : Nat) (w : World) (e : Ending) (w' : World) : Prop := ∃ v, e = .returned (.tuple #[v, .int .i64 (M.tbl.lines (trivB M) q : Int)]) ∧ Below w.heap.size w w' ∧ OwnI w' w.heap.size v (natsI (M.tbl.cyL (trivB M) q))
theorem natsI_snoc (S : List Nat) (r : Nat) : natsI (S ++ [r]) = natsI S ++ [(r : Int)] := by simp [natsI]
theorem memI_nats {S : List Nat} {r : Nat} : decide ((r : Int) ∈ natsI S) = S.contains r := by
  rw [Bool.eq_iff_iff, decide_eq_true_eq, List.contains_iff_mem]
  simp only [natsI, List.mem_map]
  exact ⟨fun ⟨x, hx, e⟩ => by have : x = r := by omega
                              rwa [this] at hx, fun h => ⟨r, h, rfl⟩⟩

set_option maxRecDepth 100000 in
set_option maxHeartbeats 400000 in
theorem cycleK_any (M : Mch) (hwf : M.Wf) (hok : M.Ok) (K q : Nat) (hq : q < M.s) (w : World) (hK : KndR w K M) :
    Calls Try.prog 76 #[.pointer (some ⟨K, 0, none⟩), .int .i64 (q : Int)] w (RetCy M q w) := by
  obtain ⟨i0, hi0, hz0, hz1, hz2⟩ := info_parts Try.info2
  have hs16 := hok.s_le
  have hl3 := hok.l_le
  have HK := Lib.hid hK
  obtain ⟨T, t1, gN, cN, gO, cO, t2, -, t4, -⟩ := hK.tab
  have HT1 := Lib.hid t1
  have HT2 := Lib.hid t2
  have HT4 := Lib.hid t4
  clear t1 t2 t4
  obtain ⟨g1, c1, k1, k2a⟩ := hK.trv
  obtain ⟨g2, c2, k3, k4⟩ := hK.rch
  have k2 := k2a q hq
  clear k2a
  obtain ⟨g3, c3, k5, k6⟩ := k4 q hq
  have k7 := k6 q hq
  have HK6 := Lib.hid k6
  have HK4 := Lib.hid k4
  have q1 : (0 : Int) ≤ (q : Int) := by omega
  have q2 : (q : Int) < (M.s : Int) := by omega
  have HOFF := Lib.hid (fun h => cyL_off (M := M) (q := q) h)
  have HYES := Lib.hid (fun h => cyL_yes (M := M) (q := q) h)
  have HCY : Hid (M.tbl.cyB (trivB M) q = (!trivB M q && M.tbl.rb q q)) := rfl
  have HLT : Hid (∀ z x, z < M.s → x < M.l → M.nn z x < M.s) := fun z x hz hx => hok.nn_lt hwf hz hx
  clear hK k4 k6
  go_enter Try.func76, Try.ntmps76
  have hoff : trivB M q = true ∨ M.tbl.rb q q = false → M.tbl.cyB (trivB M) q = false := fun h => by
    rw [HCY.out]
    rcases h with h | h <;> simp [h]
  have HO2 := Lib.hid hoff
  have hon : trivB M q = false → M.tbl.rb q q = true → M.tbl.cyB (trivB M) q = true := fun h h2 => by rw [HCY.out, h, h2]; rfl
  have HO3 := Lib.hid hon
  clear hoff hon
  cases ht : trivB M q with
  | true =>
    have HX := Lib.hid (HOFF.out (HO2.out (.inl ht)))
    rw [ht] at k2
    generalize M.tbl.rb q q = bb at *
    clear ht
    go_wp2_with fail
    go_ret2
    refine ⟨_, by rw [HX.out.2]; rfl, Below.refl _ _, ?_⟩
    rw [HX.out.1]
    exact OwnI.nil _ _
  | false =>
    rw [ht] at k2
    cases hr : M.tbl.rb q q with
    | false =>
      have HX := Lib.hid (HOFF.out (HO2.out (.inr hr)))
      rw [hr] at k7
      clear ht hr
      go_wp2_with fail
      go_ret2
      refine ⟨_, by rw [HX.out.2]; rfl, Below.refl _ _, ?_⟩
      rw [HX.out.1]
      exact OwnI.nil _ _
    | true =>
      have HC := Lib.hid (HO3.out ht hr)
      have HL := Lib.hid (HYES.out HC.out)
      rw [hr] at k7
      clear HOFF HYES HO2 HO3 HCY ht hr
      have HM0 : Hid (Mm w.heap.size w w [] [(.slice none 0 0, 2, i64s (natsI ((List.range 0).filter fun r => M.tbl.rb q r && M.tbl.rb r q)))]) := (Mm.start w).addNil 2
      have HFS : Hid (∀ r, (List.range (r + 1)).filter (fun r => M.tbl.rb q r && M.tbl.rb r q) = (List.range r).filter (fun r => M.tbl.rb q r && M.tbl.rb r q) ++ if (M.tbl.rb q r && M.tbl.rb r q) = true then [r] else []) := fun r => filter_range_succ (fun r => M.tbl.rb q r && M.tbl.rb r q) r
      have HFL : Hid (∀ r, ((List.range r).filter fun r => M.tbl.rb q r && M.tbl.rb r q).length ≤ r) := fun r => by
        have := List.length_filter_le (fun r => M.tbl.rb q r && M.tbl.rb r q) (List.range r)
        rwa [List.length_range] at this
      go_wp2_with fail
      clear k1 k2 k7
      go_loopw [6, 42] (fun v6 rv wr => ∃ r : Nat, r ≤ M.s ∧ rv = .int .i64 (r : Int) ∧ Mm w.heap.size w wr [] [(v6, 2, i64s (natsI ((List.range r).filter fun r => M.tbl.rb q r && M.tbl.rb r q)))]) (fun _ rv _ => M.s - (intOf rv).toNat)
      case atStart => exact ⟨0, Nat.zero_le _, rfl, HM0.out⟩
      case round =>
        clear HM0
        obtain ⟨r, hr, rfl, hM⟩ := hrel
        have er : IntKind.i64.wrap ((r : Int) + 1) = (r : Int) + 1 := IntWalk.i64_in _ (by omega)
        by_cases hlt : r < M.s
        · have k8 := HK6.out r hlt
          have k8 := (hM.below.cell (World.block_lt_of_cell? _ _ k8)).trans k8
          obtain ⟨g4, c4, k9, k10a⟩ := HK4.out r hlt
          have k9 := (hM.below.cell (World.block_lt_of_cell? _ _ k9)).trans k9
          have k10 := k10a q hq
          clear k10a
          have k10 := (hM.below.cell (World.block_lt_of_cell? _ _ k10)).trans k10
          have k3 := (hM.below.cell (World.block_lt_of_cell? _ _ k3)).trans k3
          have r1 : (0 : Int) ≤ (r : Int) := by omega
          have r2 : (r : Int) < (M.s : Int) := by omega
          have HF := Lib.hid (HFS.out r)
          have hfl := HFL.out r
          generalize hS : (List.range r).filter (fun r => M.tbl.rb q r && M.tbl.rb r q) = S at *
          generalize M.tbl.rb q r = b1 at *
          generalize M.tbl.rb r q = b2 at *
          have hxl : (i64s (natsI S)).length ≤ 1000000 := by simp [i64s, natsI]; omega
          by_cases hbb : (b1 && b2) = true
          · have e1 : b1 = true := by simp only [Bool.and_eq_true] at hbb; exact hbb.1
            have e2 : b2 = true := by simp only [Bool.and_eq_true] at hbb; exact hbb.2
            subst e1 e2
            have HF2 : Hid ((List.range (r + 1)).filter (fun r => M.tbl.rb q r && M.tbl.rb r q) = S ++ [r]) := HF.out
            clear HF hbb hS
            go_wp2_with (at_builtin; refine Mm.append rfl (.tmp 60) (.tmp 62) 31 rfl hM 0 rfl Try.underlying31 hi0 hz0 hz1 hz2 rfl rfl rfl rfl hxl (by omega) ?_)
            intro g6 c6 w6 hM6
            (try simp only [List.set_cons_zero] at hM6)
            have HM6 : Hid (Mm w.heap.size w w6 [] [(.slice (some ⟨g6, 0, none⟩) ((i64s (natsI S)).length + 1) c6, 2, i64s (natsI ((List.range (r + 1)).filter fun r => M.tbl.rb q r && M.tbl.rb r q)))]) := by
              show Mm _ _ _ _ _
              rw [HF2.out, natsI_snoc]
              simpa [i64s] using hM6
            clear hM hM6 k8 k9 k10
            go_wp2_with fail
            go_roundw
            case rel => exact ⟨r + 1, by omega, by go_num, HM6.out⟩
            case measure => simp [intOf] <;> omega
          · have HF2 : Hid ((List.range (r + 1)).filter (fun r => M.tbl.rb q r && M.tbl.rb r q) = S) := by show _ = _; rw [HF.out, if_neg hbb, List.append_nil]
            have HM6 : Hid (Mm w.heap.size w wr [] [(u6, 2, i64s (natsI ((List.range (r + 1)).filter fun r => M.tbl.rb q r && M.tbl.rb r q)))]) := by
              show Mm _ _ _ _ _
              rw [HF2.out]; exact hM
            clear hM HF hS
            cases b1 with
            | false =>
              clear hbb
              go_wp2_with fail
              go_roundw
              case rel => exact ⟨r + 1, by omega, by go_num, HM6.out⟩
              case measure => simp [intOf] <;> omega
            | true =>
              have e2 : b2 = false := by simpa using hbb
              subst e2
              clear hbb
              go_wp2_with fail
              go_roundw
              case rel => exact ⟨r + 1, by omega, by go_num, HM6.out⟩
              case measure => simp [intOf] <;> omega
        · have hr' : r = M.s := by omega
          subst hr'
          have r2 : ¬ ((M.s : Int) < (M.s : Int)) := by omega
          rw [← HL.out] at hM
          obtain ⟨L, hLd⟩ : ∃ L, L = M.tbl.cyL (trivB M) q := ⟨_, rfl⟩
          rw [← hLd] at hM
          have hLl : L.length ≤ M.s := by rw [hLd]; exact Tbl.cyL_len (t := M.tbl) q
          have HLM : Hid (∀ i, i < L.length → L[i]?.getD 0 < M.s) := fun i hi => by
            rw [List.getElem?_eq_getElem hi, Option.getD_some]
            exact Tbl.cyL_lt (t := M.tbl) (tv := trivB M) (q := q) (by rw [← hLd]; exact List.getElem_mem hi)
          have HLD := Lib.hid hLd
          have HLE : Hid (M.tbl.linU L L.length 0 = M.tbl.lines (trivB M) q) := by show _ = _; rw [hLd]; exact Tbl.linU_end q
          have HLS := Lib.hid (Tbl.linU_start (t := M.tbl) L)
          have HLU : Hid (∀ i x, M.tbl.linU L i (x + 1) = M.tbl.linU L i x + if L.contains (M.tbl.nx (L[i]?.getD 0) x) = true then 1 else 0) := fun i x => Tbl.linU_succ L i x
          have HLN : Hid (∀ i, i < L.length → M.tbl.linU L i M.l = M.tbl.linU L (i + 1) 0) := fun i hi => Tbl.linU_next hi
          have HLB : Hid (∀ i x, i ≤ 16 → x ≤ 3 → M.tbl.linU L i x ≤ 1000) := fun i x hi hx => by
            have h1 := Tbl.linU_le (t := M.tbl) L i x
            have h2 : i * M.tbl.d ≤ 16 * 3 := Nat.mul_le_mul hi hl3
            omega
          obtain ⟨a6, c6, rfl, -⟩ := (OwnI.of_row (hM.own _ (List.mem_cons_self ..))).form
          have hnl : (natsI L).length = L.length := natsI_len L
          rw [hnl] at hM ⊢
          have HM := Lib.hid hM
          clear hM hLd HL HFS HFL HK6 HK4 k3 k5
          have HZ0 : Hid ((0 : Int) = (M.tbl.linU L 0 0 : Int)) := by show _ = _; rw [HLS.out]; rfl
          go_wp2_with fail
          go_loopw [9, 67] (fun v9 iv wr => ∃ i : Nat, i ≤ L.length ∧ iv = .int .i64 (i : Int) ∧ v9 = .int .i64 (M.tbl.linU L i 0 : Int) ∧ Mm w.heap.size w wr [] [(.slice a6 L.length c6, 2, i64s (natsI L))]) (fun _ iv _ => L.length - (intOf iv).toNat)
          case atStart => exact ⟨0, Nat.zero_le _, rfl, by rw [← HZ0.out], HM.out⟩
          case round =>
            clear HM
            obtain ⟨i, hi, rfl, rfl, hM⟩ := hrel
            have ei : IntKind.i64.wrap ((i : Int) + 1) = (i : Int) + 1 := IntWalk.i64_in _ (by omega)
            by_cases hil : i < L.length
            · obtain ⟨z, hz⟩ : ∃ z, z = L[i]?.getD 0 := ⟨_, rfl⟩
              have hzs : z < M.s := by rw [hz]; exact HLM.out i hil
              have hIA : IntsAt wr a6 (natsI L) := hM.intsAt 0 rfl
              obtain ⟨bb, off, rfl, d1⟩ := hIA i (by rw [hnl]; exact hil)
              rw [natsI_get hil, ← hz] at d1
              obtain ⟨g, cg, e1, e2⟩ := HT4.out z hzs
              have HE2 := Lib.hid e2
              have e1 := (hM.below.cell (World.block_lt_of_cell? _ _ e1)).trans e1
              have t1 := (hM.below.cell (World.block_lt_of_cell? _ _ HT1.out)).trans HT1.out
              have t2 := (hM.below.cell (World.block_lt_of_cell? _ _ HT2.out)).trans HT2.out
              have HZ : Hid (L[i]?.getD 0 = z) := hz.symm
              have i1 : (0 : Int) ≤ (i : Int) := by omega
              have i2 : (i : Int) < (L.length : Int) := by omega
              have z1 : (0 : Int) ≤ (z : Int) := by omega
              have z2 : (z : Int) < (M.s : Int) := by omega
              have HM := Lib.hid hM
              clear hM hIA hz e2
              go_wp2_with fail
              clear t1 t2 e1 d1
              go_loopw [9, 82] (fun v9 xv wx => ∃ x : Nat, x ≤ M.l ∧ xv = .int .i64 (x : Int) ∧ v9 = .int .i64 (M.tbl.linU L i x : Int) ∧ Mm w.heap.size w wx [] [(.slice (some ⟨bb, off, none⟩) L.length c6, 2, i64s (natsI L))]) (fun _ xv _ => M.l - (intOf xv).toNat)
              case atStart => exact ⟨0, Nat.zero_le _, rfl, rfl, HM.out⟩
              case round =>
                clear HM
                obtain ⟨x, hx, rfl, rfl, hM⟩ := hrel
                have ex : IntKind.i64.wrap ((x : Int) + 1) = (x : Int) + 1 := IntWalk.i64_in _ (by omega)
                by_cases hxl : x < M.l
                · have hys := HLT.out z x hzs hxl
                  have e3 := HE2.out x hxl
                  have e3 := (hM.below.cell (World.block_lt_of_cell? _ _ e3)).trans e3
                  have HU := Lib.hid (HLU.out i x)
                  rw [HZ.out] at HU
                  change Hid (M.tbl.linU L i (x + 1) = M.tbl.linU L i x + if L.contains (M.nn z x) = true then 1 else 0) at HU
                  have hub := HLB.out i x (by omega) (by omega)
                  have HCT := Lib.hid (slContainsI_any (some ⟨bb, off, none⟩) c6 (natsI L) ((M.nn z x : Nat) : Int) (by rw [hnl]; omega) wr (hM.intsAt 0 rfl))
                  rw [memI_nats, hnl] at HCT
                  have x1 : (0 : Int) ≤ (x : Int) := by omega
                  have x2 : (x : Int) < (M.l : Int) := by omega
                  have HM := Lib.hid hM
                  generalize L.contains (M.nn z x) = cb at *
                  generalize M.nn z x = y at *
                  generalize M.tbl.linU L i x = u at *
                  have eu : IntKind.i64.wrap ((u : Int) + 1) = (u : Int) + 1 := IntWalk.i64_in _ (by omega)
                  clear hM
                  go_wp2_with fail
                  refine HCT.out.mono ?_
                  rintro e w5 ⟨rfl, d, rfl⟩
                  have HM5 := Lib.hid (HM.out.drewN d)
                  clear HCT e3 HM
                  cases cb with
                  | true =>
                    have HU2 : Hid (((u : Int) + 1) = (M.tbl.linU L i (x + 1) : Int)) := by show _ = _; rw [HU.out]; simp
                    clear HU
                    go_wp2_with fail
                    go_roundw
                    case rel => exact ⟨x + 1, by omega, by go_num, by rw [← HU2.out], HM5.out⟩
                    case measure => simp [intOf] <;> omega
                  | false =>
                    have HU2 : Hid ((u : Int) = (M.tbl.linU L i (x + 1) : Int)) := by show _ = _; rw [HU.out]; simp
                    clear HU
                    go_wp2_with fail
                    go_roundw
                    case rel => exact ⟨x + 1, by omega, by go_num, by rw [← HU2.out], HM5.out⟩
                    case measure => simp [intOf] <;> omega
                · have hx' : x = M.l := by omega
                  subst hx'
                  have x2 : ¬ ((M.l : Int) < (M.l : Int)) := by omega
                  have HU2 : Hid ((M.tbl.linU L i M.l : Int) = (M.tbl.linU L (i + 1) 0 : Int)) := by show _ = _; rw [HLN.out i hil]
                  have HM := Lib.hid hM
                  clear hM
                  go_wp2_with fail
                  go_roundw
                  case rel => exact ⟨i + 1, by omega, by go_num, by rw [← HU2.out], HM.out⟩
                  case measure => simp [intOf] <;> omega
            · have hi' : i = L.length := by omega
              subst hi'
              have i2 : ¬ ((L.length : Int) < (L.length : Int)) := by omega
              have HO : Hid (OwnI wr w.heap.size (.slice a6 L.length c6) (natsI L)) := OwnI.of_row (by have h := hM.own _ (List.mem_cons_self ..); simp only at h; exact h)
              have HB := Lib.hid hM.below
              clear hM
              go_wp2_with fail
              go_ret2
              refine ⟨_, by rw [← HLE.out]; rfl, HB.out, ?_⟩
              rw [← HLD.out]
              exact HO.out
end Go.Proofs.Ythgkkaifdlkciaa

/- (*kinds).passed: how many cycles a state can pass, with what is known already. -/
namespace Go.Proofs.Ythgkkaifdlkciaa
open Go.RowKit
set_option linter.unusedVariables false
set_option linter.unusedSimpArgs false

def DegR (w : World) (D c : Nat) (M : Mch) : Prop := ∃ ds : List Int, ds.length = M.s ∧ OwnI w 0 (.slice (some ⟨D, 0, none⟩) M.s c) ds ∧ ∀ q, q < M.s → ds[q]?.getD 0 = -1 ∨ ds[q]?.getD 0 = (M.tbl.pasD (trivB M) q : Int)
structure KndD (w : World) (K D c : Nat) (M : Mch) : Prop where
  rd : KndR (cutD w D) K M
  hd : w.cell? ⟨K, 3, none⟩ = some (.slice (some ⟨D, 0, none⟩) M.s c)
  ne : K ≠ D
  lt : D < w.heap.size
  deg : DegR w D c M
theorem KndD.step {w w' : World} {K D c : Nat} {M : Mch} (h : KndD w K D c M) (hg : w.grownBy w' (some D)) (hd : DegR w' D c M) : KndD w' K D c M := by
  have hb := cutD_below (D := D) hg.size hg.os hg.tape hg.output (fun b h1 h2 => hg.block b h1 (fun e => h2 (by injection e))) h.lt
  refine ⟨h.rd.keep hb, ?_, h.ne, Nat.lt_of_lt_of_le h.lt hg.size, hd⟩
  have hK := World.block_lt_of_cell? _ _ h.hd
  exact (World.cell?_of_block (w := w) (w' := w') (a := ⟨K, 3, none⟩) (hg.block K hK (fun e => h.ne (by injection e)))).trans h.hd
theorem _root_.Go.RowKit.Below.grownD {w w' : World} (h : Below w.heap.size w w') (row : Option Nat) : w.grownBy w' row := ⟨h.os, h.tape, h.output, h.size, fun k hk _ => h.block k hk⟩
theorem DegR.below {w w' : World} {D c : Nat} {M : Mch} (h : DegR w D c M) (hb : Below w.heap.size w w') : DegR w' D c M := by
  obtain ⟨ds, h1, h2, h3⟩ := h
  exact ⟨ds, h1, h2.below hb, h3⟩
theorem KndD.keep {w w' : World} {K D c : Nat} {M : Mch} (h : KndD w K D c M) (hb : Below w.heap.size w w') : KndD w' K D c M := h.step (hb.grownD _) (h.deg.below hb)
theorem OwnI.gkeep {w w' : World} {B D : Nat} {v : Value} {xs : List Int} (h : OwnI w B v xs) (hg : w.grownBy w' (some D)) (hD : D < B) : OwnI w' B v xs := by
  have hne : v.ownBlock ≠ some D := fun e => by have := (World.ownsRow.lt h D e).1; omega
  exact World.ownsRow.kept h hg (by first | exact .inr hne | exact .inr (Ne.symm hne))
theorem set_getD {ds : List Int} {q r : Nat} {v : Int} (hq : q < ds.length) : (ds.set q v)[r]?.getD 0 = if r = q then v else ds[r]?.getD 0 := by
  by_cases e : r = q
  · subst e; rw [List.getElem?_set_self hq, if_pos rfl]; rfl
  · rw [List.getElem?_set_ne (Ne.symm e), if_neg e]
theorem i64s_setI (ds : List Int) (q : Nat) (v : Int) : i64s (ds.set q v) = (i64s ds).set q (.int .i64 v) := by simp [i64s, List.map_set]
def RetPs (M : Mch) (q : Nat) (D c : Nat) (w : World) (e : Ending) (w' : World) : Prop := e = .returned (.int .i64 (M.tbl.pasD (trivB M) q : Int)) ∧ w.grownBy w' (some D) ∧ DegR w' D c M

set_option maxRecDepth 100000 in
set_option maxHeartbeats 400000 in
theorem passed_any (M : Mch) (hwf : M.Wf) (hok : M.Ok) (htv : M.tbl.Tv (trivB M)) (K D c : Nat) : ∀ (n q : Nat), q < M.s → M.tbl.mu q ≤ n → ∀ w, KndD w K D c M →
    Calls Try.prog 77 #[.pointer (some ⟨K, 0, none⟩), .int .i64 (q : Int)] w (RetPs M q D c w) := by
  intro n
  induction n with
  | zero =>
    intro q hq hm
    exfalso
    have hmem : q ∈ (List.range M.tbl.n).filter fun r => decide (r = q) || M.tbl.rb q r := List.mem_filter.2 ⟨List.mem_range.2 hq, by simp⟩
    have := List.length_pos_of_mem hmem
    change 0 < M.tbl.mu q at this
    omega
  | succ n ih =>
    intro q hq hm w hK
    have hs16 := hok.s_le
    have hl3 := hok.l_le
    have HIH : Hid (∀ u, u ∈ M.tbl.outs (trivB M) q → ∀ w, KndD w K D c M → Calls Try.prog 77 #[.pointer (some ⟨K, 0, none⟩), .int .i64 (u : Int)] w (RetPs M u D c w)) := fun u hu w h => by
      obtain ⟨h1, h2⟩ := Tbl.outs_mu htv (q := q) hq hu
      exact ih u h2 (by omega) w h
    have HK := Lib.hid hK
    have hd := hK.hd
    obtain ⟨ds, hdl, hdo, hdv⟩ := hK.deg
    have c3 : w.cell? ⟨D, q, none⟩ = some (.int .i64 (ds[q]?.getD 0)) := by
      have h := World.ownsRow.cells hdo (g := D) rfl q (.int .i64 (ds[q]?.getD 0)) (by rw [i64s_get (by omega)])
      rwa [show (⟨D, 0, none⟩ : Addr).add q = ⟨D, q, none⟩ by unfold Addr.add; split <;> simp_all] at h
    have q1 : (0 : Int) ≤ (q : Int) := by omega
    have q2 : (q : Int) < (M.s : Int) := by omega
    have hv := hdv q hq
    have HPE : Hid (M.tbl.pasD (trivB M) q = lmx ((M.tbl.outs (trivB M) q).map (M.tbl.pasD (trivB M))) + if M.tbl.cyB (trivB M) q = true then 1 else 0) := Tbl.pasD_eq htv hq
    have HPB : Hid (∀ u, M.tbl.pasD (trivB M) u ≤ 17) := fun u => Nat.le_trans (Tbl.pasF_le _ _ _ _) (by show M.s + 1 ≤ 17; omega)
    clear hK ih hdo hdv hm
    generalize ds[q]?.getD 0 = d at *
    go_enter Try.func77, Try.ntmps77
    by_cases hd1 : d = -1
    case neg =>
      have hd2 : d = (M.tbl.pasD (trivB M) q : Int) := hv.resolve_left hd1
      have hd3 : 0 ≤ d := by omega
      have HD := Lib.hid hd2
      clear hd2 hd1 hv
      go_wp2_with fail
      go_ret
      exact ⟨by rw [HD.out]; rfl, (Below.refl _ _).grownD _, HK.out.deg⟩
    case pos =>
      subst hd1
      clear hv
      have HCY := Lib.hid (cycleK_any M hwf hok K q hq w HK.out.rd.uncut)
      go_wp2_with fail
      refine HCY.out.mono ?_
      rintro e w1 ⟨v5, rfl, hb1, hO1⟩
      obtain ⟨a5, c5, rfl, -⟩ := hO1.form
      have hll : (natsI (M.tbl.cyL (trivB M) q)).length = (M.tbl.cyL (trivB M) q).length := natsI_len _
      have HLP := Lib.hid (Tbl.cyL_pos (tv := trivB M) (t := M.tbl) (q := q) hq)
      have HG1 : Hid (w.grownBy w1 (some D)) := hb1.grownD _
      have HK1 := Lib.hid (HK.out.keep hb1)
      have HO1 := Lib.hid hO1
      have HDL : Hid (D < w.heap.size) := HK.out.lt
      have HLT : Hid (∀ z x, z < M.s → x < M.l → M.nn z x < M.s) := fun z x hz hx => hok.nn_lt hwf hz hx
      have HFL : Hid (∀ r, r ∈ M.tbl.frm (trivB M) q → r < M.s) := fun r h => Tbl.frm_lt (t := M.tbl) hq h
      have HPS : Hid (∀ F P, M.tbl.pasU F P 0 0 = 0) := fun F P => Tbl.pasU_start F P
      have HPY : Hid (∀ F P i x, F.contains (M.tbl.nx (F[i]?.getD 0) x) = false → M.tbl.pasU F P i (x + 1) = max (M.tbl.pasU F P i x) (P (M.tbl.nx (F[i]?.getD 0) x))) := fun F P i x h => Tbl.pasU_yes h
      have HPO : Hid (∀ F P i x, F.contains (M.tbl.nx (F[i]?.getD 0) x) = true → M.tbl.pasU F P i (x + 1) = M.tbl.pasU F P i x) := fun F P i x h => Tbl.pasU_no h
      have HPN : Hid (∀ F P i, i < F.length → M.tbl.pasU F P i M.l = M.tbl.pasU F P (i + 1) 0) := fun F P i h => Tbl.pasU_next h
      have HPZ : Hid (∀ P, M.tbl.pasU (M.tbl.frm (trivB M) q) P (M.tbl.frm (trivB M) q).length 0 = lmx ((M.tbl.outs (trivB M) q).map P)) := fun P => Tbl.pasU_end P q
      have HUM : Hid (∀ u, (∃ r, r ∈ M.tbl.frm (trivB M) q ∧ M.tbl.E r u) ∧ u ∉ M.tbl.frm (trivB M) q → u ∈ M.tbl.outs (trivB M) q) := fun u h => Tbl.outs_mem.2 h
      rw [hll]
      clear hO1 hb1 HCY c3 hd
      cases hc : M.tbl.cyB (trivB M) q with
      | true =>
        have hpos : 0 < (M.tbl.cyL (trivB M) q).length := HLP.out.2 hc
        have hfr : M.tbl.frm (trivB M) q = M.tbl.cyL (trivB M) q := by rw [Tbl.frm, if_pos hc]
        rw [hc, if_pos rfl] at HPE
        have HFN : Hid ((M.tbl.cyL (trivB M) q).length ≤ 16) := Nat.le_trans (Tbl.cyL_len (t := M.tbl) (tv := trivB M) q) hs16
        obtain ⟨F, hF⟩ : ∃ F, F = M.tbl.cyL (trivB M) q := ⟨_, rfl⟩
        rw [← hF] at HO1 hpos hll HFN hfr ⊢
        have HFR := Lib.hid hfr
        obtain ⟨aF, rfl⟩ : ∃ aF, aF = a5 := ⟨_, rfl⟩
        obtain ⟨cF, rfl⟩ : ∃ cF, cF = c5 := ⟨_, rfl⟩
        rw [hll] at HO1
        have HFO := Lib.hid HO1.out
        have HKD := Lib.hid HK1.out
        have HGD := Lib.hid HG1.out
        have j0 : ((F.length : Int) == 0) = false := by rw [beq_eq_false_iff_ne]; omega
        have j1 : (0 : Int) < (F.length : Int) := by omega
        obtain ⟨W0, hW0⟩ : ∃ W0, W0 = w1 := ⟨_, rfl⟩
        clear hF hW0 hll hfr hc HO1 HK1 HG1 HLP
        obtain ⟨fl, hfl⟩ : ∃ fl, F.length = fl := ⟨_, rfl⟩
        have HFE := Lib.hid hfl
        rw [hfl] at HFO j0 j1 ⊢
        clear hfl hpos
        have HLE : Hid (F.length ≤ 16) := HFN
        go_wp2_with fail
        go_loopw [8, 42] (fun v8 iv wr => ∃ i : Nat, i ≤ fl ∧ iv = .int .i64 (i : Int) ∧ v8 = .int .i64 (M.tbl.pasU F (M.tbl.pasD (trivB M)) i 0 : Int) ∧ Hid (KndD wr K D c M) ∧ Hid (OwnI wr w.heap.size (.slice aF fl cF) (natsI F)) ∧ Hid (w.grownBy wr (some D))) (fun _ iv _ => fl - (intOf iv).toNat)
        case atStart => exact ⟨0, Nat.zero_le _, rfl, by rw [HPS.out]; rfl, HKD.out, HFO.out, HGD.out⟩
        case round =>
          clear HKD HFO HGD
          obtain ⟨i, hi, rfl, rfl, HKD, HFO, HGD⟩ := hrel
          have hF16 := HLE.out
          rw [HFE.out] at hF16
          have ei : IntKind.i64.wrap ((i : Int) + 1) = (i : Int) + 1 := IntWalk.i64_in _ (by omega)
          by_cases hil : i < fl
          · have hil2 : i < F.length := by rw [HFE.out]; exact hil
            skip
            obtain ⟨wo, rfl⟩ : ∃ wo, wo = wr := ⟨_, rfl⟩
            obtain ⟨z, hz⟩ : ∃ z, z = F[i]?.getD 0 := ⟨_, rfl⟩
            have hzF : z ∈ M.tbl.frm (trivB M) q := by
              rw [HFR.out, hz, List.getElem?_eq_getElem hil2, Option.getD_some]; exact List.getElem_mem hil2
            have hzs : z < M.s := HFL.out z hzF
            have HZF := Lib.hid hzF
            obtain ⟨a', c', ef, hIA⟩ := HFO.out.form
            injection ef with ef1 ef0 ef2
            rw [← ef1] at hIA
            clear ef0 ef1 ef2
            obtain ⟨bb, off, hab, d1⟩ := hIA i (by rw [natsI_len]; exact hil2)
            rw [natsI_get hil2, ← hz] at d1
            subst hab
            obtain ⟨⟨T, t1, gN, cN, gO, cO, t2, -, t4, -⟩, -, -⟩ := HKD.out.rd
            obtain ⟨g, cg, e1, e2⟩ := t4 z hzs
            have e1 := cutD_cell e1
            have t1 := cutD_cell t1
            have t2 := cutD_cell t2
            have hDl := HKD.out.lt
            have HE2 : Hid (∀ W, wo.grownBy W (some D) → ∀ x, x < M.l → W.cell? ⟨g, x, none⟩ = some (.int .i64 (M.nn z x))) := fun W hW x hx => by
              have hb := cutD_below (D := D) hW.size hW.os hW.tape hW.output (fun b h1 h2 => hW.block b h1 (fun e => h2 (by injection e))) hDl
              have h3 := e2 x hx
              exact cutD_cell ((hb.cell (World.block_lt_of_cell? _ _ h3)).trans h3)
            have HZ : Hid (F[i]?.getD 0 = z) := hz.symm
            have i1 : (0 : Int) ≤ (i : Int) := by omega
            have i2 : (i : Int) < (fl : Int) := by omega
            have z1 : (0 : Int) ≤ (z : Int) := by omega
            have z2 : (z : Int) < (M.s : Int) := by omega
            have HWO := Lib.hid HGD.out
            clear hIA hz e2 hzF t4 hDl HGD
            have HGS : Hid (wo.grownBy wo (some D)) := (Below.refl _ _).grownD _
            go_wp2_with fail
            clear t1 t2 e1 d1
            go_loopw [8, 57] (fun v8 xv wx => ∃ x : Nat, x ≤ M.l ∧ xv = .int .i64 (x : Int) ∧ v8 = .int .i64 (M.tbl.pasU F (M.tbl.pasD (trivB M)) i x : Int) ∧ Hid (KndD wx K D c M) ∧ Hid (OwnI wx w.heap.size (.slice (some ⟨bb, off, none⟩) fl cF) (natsI F)) ∧ Hid (wo.grownBy wx (some D))) (fun _ xv _ => M.l - (intOf xv).toNat)
            case atStart => exact ⟨0, Nat.zero_le _, rfl, rfl, HKD.out, HFO.out, HGS.out⟩
            case round =>
              clear HKD HFO HGS
              obtain ⟨x, hx, rfl, rfl, HKD, HFO, HGS⟩ := hrel
              have ex : IntKind.i64.wrap ((x : Int) + 1) = (x : Int) + 1 := IntWalk.i64_in _ (by omega)
              by_cases hxl : x < M.l
              · obtain ⟨y, hy⟩ : ∃ y, y = M.nn z x := ⟨_, rfl⟩
                have hys : y < M.s := by rw [hy]; exact HLT.out z x hzs hxl
                have e3 := HE2.out wr HGS.out x hxl
                rw [← hy] at e3
                have HY : Hid (M.tbl.nx (F[i]?.getD 0) x = y) := by show _ = _; rw [HZ.out]; exact hy.symm
                have HPY2 := Lib.hid (HPY.out F (M.tbl.pasD (trivB M)) i x)
                have HPO2 := Lib.hid (HPO.out F (M.tbl.pasD (trivB M)) i x)
                rw [HY.out] at HPY2 HPO2
                have hIA : IntsAt wr (some ⟨bb, off, none⟩) (natsI F) := by
                  obtain ⟨a', c', ef, h⟩ := HFO.out.form
                  injection ef with ef1 _ ef2
                  rw [ef1]; exact h
                have HCT := Lib.hid (slContainsI_any (some ⟨bb, off, none⟩) cF (natsI F) ((y : Nat) : Int) (by rw [natsI_len, HFE.out]; omega) wr hIA)
                rw [memI_nats, natsI_len, HFE.out] at HCT
                have HIU : Hid (F.contains y = false → ∀ W, KndD W K D c M → Calls Try.prog 77 #[.pointer (some ⟨K, 0, none⟩), .int .i64 (y : Int)] W (RetPs M y D c W)) := fun h W hW => HIH.out y (HUM.out y ⟨⟨z, HZF.out, x, hxl, hy.symm⟩, fun hm => by
                  rw [HFR.out, ← List.contains_iff_mem, h] at hm; cases hm⟩) W hW
                have hpb := HPB.out y
                have x1 : (0 : Int) ≤ (x : Int) := by omega
                have x2 : (x : Int) < (M.l : Int) := by omega
                generalize F.contains y = cb at *
                obtain ⟨u, hu⟩ : ∃ u, u = M.tbl.pasU F (M.tbl.pasD (trivB M)) i x := ⟨_, rfl⟩
                rw [← hu] at HPY2 HPO2 ⊢
                generalize hpy : M.tbl.pasD (trivB M) y = py at *
                clear hIA hy hu
                go_wp2_with fail
                refine HCT.out.mono ?_
                rintro e w5 ⟨rfl, d, rfl⟩
                have hdb : Below wr.heap.size wr (wr.drewN d) := ⟨rfl, rfl, rfl, Nat.le_refl _, fun _ _ => rfl⟩
                have HKD5 := Lib.hid (HKD.out.keep hdb)
                have HFO5 := Lib.hid (HFO.out.below hdb)
                have HGS5 := Lib.hid (HGS.out.trans (hdb.grownD _))
                clear HCT e3 HKD HFO HGS hdb
                generalize wr.drewN d = w5 at *
                cases cb with
                | true =>
                  have HU2 : Hid ((u : Int) = (M.tbl.pasU F (M.tbl.pasD (trivB M)) i (x + 1) : Int)) := by show _ = _; rw [HPO2.out rfl]
                  clear HPY2 HPO2 HIU
                  go_wp2_with fail
                  go_roundw
                  case rel => exact ⟨x + 1, by omega, by go_num, by rw [← HU2.out], HKD5.out, HFO5.out, HGS5.out⟩
                  case measure => simp [intOf] <;> omega
                | false =>
                  have HU2 : Hid (((max u py : Nat) : Int) = (M.tbl.pasU F (M.tbl.pasD (trivB M)) i (x + 1) : Int)) := by show _ = _; rw [HPY2.out rfl]
                  have HPC := Lib.hid (HIU.out rfl w5 HKD5.out)
                  have HPQ : Hid (M.tbl.pasD (trivB M) y = py) := hpy
                  clear HPY2 HPO2 HIU hpy
                  go_wp2_with fail
                  refine HPC.out.mono ?_
                  rintro e w6 ⟨rfl, hg6, hd6⟩
                  rw [HPQ.out]
                  have HKD6 := Lib.hid (HKD5.out.step hg6 hd6)
                  have HFO6 := Lib.hid (HFO5.out.gkeep hg6 HDL.out)
                  have HGS6 := Lib.hid (HGS5.out.trans hg6)
                  clear HPC hg6 hd6 HKD5 HFO5 HGS5
                  go_wp2_with fail
                  go_roundw
                  case rel => exact ⟨x + 1, by omega, by go_num, by first | (rw [← HU2.out]; done) | (rw [← HU2.out]; go_num), HKD6.out, HFO6.out, HGS6.out⟩
                  case measure => simp [intOf] <;> omega
              · have hx' : x = M.l := by omega
                subst hx'
                have x2 : ¬ ((M.l : Int) < (M.l : Int)) := by omega
                have HU2 : Hid ((M.tbl.pasU F (M.tbl.pasD (trivB M)) i M.l : Int) = (M.tbl.pasU F (M.tbl.pasD (trivB M)) (i + 1) 0 : Int)) := by show _ = _; rw [HPN.out F _ i hil2]
                have HG2 := Lib.hid (HWO.out.trans HGS.out)
                go_wp2_with fail
                go_roundw
                case rel => exact ⟨i + 1, by omega, by go_num, by rw [← HU2.out], HKD.out, HFO.out, HG2.out⟩
                case measure => simp [intOf] <;> omega
          · have hi' : fl = i := by omega
            subst hi'
            have i2 : ¬ ((fl : Int) < (fl : Int)) := by omega
            have HV : Hid ((M.tbl.pasD (trivB M) q : Int) = ((M.tbl.pasU F (M.tbl.pasD (trivB M)) fl 0 : Nat) : Int) + 1) := by
              show _ = _
              rw [HPE.out, ← HPZ.out, HFR.out, HFE.out]; simp
            have hpq := HPB.out q
            have hup : M.tbl.pasU F (M.tbl.pasD (trivB M)) fl 0 ≤ 17 := by have := HV.out; omega
            have hd := HKD.out.hd
            obtain ⟨ds2, hl2, ho2, hv2⟩ := HKD.out.deg
            have ho3 : wr.ownsRow 0 2 1 (.slice (some ⟨D, 0, none⟩) M.s c) M.s (i64s ds2) := by
              have := ho2; rw [OwnI, hl2] at this; exact this
            have d1 := ho3.cellAt q (by omega)
            rw [i64s_get (by omega)] at d1
            have f1 := ho3.frozenAt q
            generalize ds2[q]?.getD 0 = old at *
            generalize hu : M.tbl.pasU F (M.tbl.pasD (trivB M)) fl 0 = u at *
            have eu : IntKind.i64.wrap ((u : Int) + 1) = (u : Int) + 1 := IntWalk.i64_in _ (by omega)
            have HST : Hid (∀ v : Int, v = (M.tbl.pasD (trivB M) q : Int) → w.grownBy (wr.setCell ⟨D, q, none⟩ (.int .i64 v)) (some D) ∧ DegR (wr.setCell ⟨D, q, none⟩ (.int .i64 v)) D c M) := fun v hv => by
              obtain ⟨s1, s2⟩ := ho3.stored q (.int .i64 v)
              refine ⟨HGD.out.trans s2, ds2.set q v, by simp [hl2], ?_, fun r hr => ?_⟩
              · rw [OwnI, List.length_set, hl2, i64s_setI]; exact s1
              · rw [set_getD (by omega)]
                by_cases e : r = q
                · rw [if_pos e, e]; exact .inr hv
                · rw [if_neg e]; exact hv2 r hr
            clear ho2 ho3 hv2 hu
            go_wp2_with fail
            go_ret
            obtain ⟨s1, s2⟩ := HST.out _ (by rw [HV.out])
            exact ⟨by rw [HV.out]; rfl, s1, s2⟩
      | false =>
        have hnil : M.tbl.cyL (trivB M) q = [] := (cyL_off hc).1
        have hfr : M.tbl.frm (trivB M) q = [q] := by rw [Tbl.frm, if_neg (by simp [hc])]
        rw [hc, if_neg (by decide)] at HPE
        rw [hnil] at HO1 hll ⊢
        obtain ⟨F, hF⟩ : ∃ F, F = [q] := ⟨_, rfl⟩
        rw [← hF] at hfr
        have HFR := Lib.hid hfr
        have HFN : Hid (F.length ≤ 16) := by show _ ≤ _; rw [hF]; simp
        have hb2 : Below w1.heap.size w1 (w1.alloc (.cells #[.int .i64 (q : Int)] 2)) := (Below.refl _ _).alloc (Nat.le_refl _) _
        have HFO : Hid (OwnI (w1.alloc (.cells #[.int .i64 (q : Int)] 2)) w.heap.size (.slice (some ⟨w1.heap.size, 0, none⟩) 1 1) (natsI [q])) :=
          (OwnI.of_row (((Mm.start w1).newOwn #[.int .i64 (q : Int)] 2 1 rfl (by omega)).own _ (mem_of_get (i := 0) rfl))).less HG1.out.size
        have HKD := Lib.hid (HK1.out.keep hb2)
        have HGD := Lib.hid (HG1.out.trans (hb2.grownD _))
        have hF1 : F.length = 1 := by rw [hF]; rfl
        clear hb2 HO1 HK1 HG1 HLP hc hll hfr hnil
        go_wp2_with fail
        rw [← hF] at HFO
        have HFE : Hid (F.length = 1) := hF1
        generalize w1.alloc (.cells #[.int .i64 (q : Int)] 2) = W0 at *
        generalize w1.heap.size = b7 at *
        clear hF hF1
        have HLE : Hid (F.length ≤ 16) := HFN
        skip
        go_loopw [8, 42] (fun v8 iv wr => ∃ i : Nat, i ≤ 1 ∧ iv = .int .i64 (i : Int) ∧ v8 = .int .i64 (M.tbl.pasU F (M.tbl.pasD (trivB M)) i 0 : Int) ∧ Hid (KndD wr K D c M) ∧ Hid (OwnI wr w.heap.size (.slice (some ⟨b7, 0, none⟩) 1 1) (natsI F)) ∧ Hid (w.grownBy wr (some D))) (fun _ iv _ => 1 - (intOf iv).toNat)
        case atStart => exact ⟨0, Nat.zero_le _, rfl, by rw [HPS.out]; rfl, HKD.out, HFO.out, HGD.out⟩
        case round =>
          clear HKD HFO HGD
          obtain ⟨i, hi, rfl, rfl, HKD, HFO, HGD⟩ := hrel
          have hF16 := HLE.out
          rw [HFE.out] at hF16
          have ei : IntKind.i64.wrap ((i : Int) + 1) = (i : Int) + 1 := IntWalk.i64_in _ (by omega)
          by_cases hil : i < 1
          · have hil2 : i < F.length := by rw [HFE.out]; exact hil
            (obtain rfl : i = 0 := by omega)
            obtain ⟨wo, rfl⟩ : ∃ wo, wo = wr := ⟨_, rfl⟩
            obtain ⟨z, hz⟩ : ∃ z, z = F[0]?.getD 0 := ⟨_, rfl⟩
            have hzF : z ∈ M.tbl.frm (trivB M) q := by
              rw [HFR.out, hz, List.getElem?_eq_getElem hil2, Option.getD_some]; exact List.getElem_mem hil2
            have hzs : z < M.s := HFL.out z hzF
            have HZF := Lib.hid hzF
            obtain ⟨a', c', ef, hIA⟩ := HFO.out.form
            injection ef with ef1 ef0 ef2
            rw [← ef1] at hIA
            clear ef0 ef1 ef2
            obtain ⟨bb, off, hab, d1⟩ := hIA 0 (by rw [natsI_len]; exact hil2)
            rw [natsI_get hil2, ← hz] at d1
            injection hab with hab; injection hab with h1 h2; subst h1 h2
            obtain ⟨⟨T, t1, gN, cN, gO, cO, t2, -, t4, -⟩, -, -⟩ := HKD.out.rd
            obtain ⟨g, cg, e1, e2⟩ := t4 z hzs
            have e1 := cutD_cell e1
            have t1 := cutD_cell t1
            have t2 := cutD_cell t2
            have hDl := HKD.out.lt
            have HE2 : Hid (∀ W, wo.grownBy W (some D) → ∀ x, x < M.l → W.cell? ⟨g, x, none⟩ = some (.int .i64 (M.nn z x))) := fun W hW x hx => by
              have hb := cutD_below (D := D) hW.size hW.os hW.tape hW.output (fun b h1 h2 => hW.block b h1 (fun e => h2 (by injection e))) hDl
              have h3 := e2 x hx
              exact cutD_cell ((hb.cell (World.block_lt_of_cell? _ _ h3)).trans h3)
            have HZ : Hid (F[0]?.getD 0 = z) := hz.symm
            have i1 : (0 : Int) ≤ (0 : Int) := by omega
            have i2 : (0 : Int) < (1 : Int) := by omega
            have z1 : (0 : Int) ≤ (z : Int) := by omega
            have z2 : (z : Int) < (M.s : Int) := by omega
            have HWO := Lib.hid HGD.out
            clear hIA hz e2 hzF t4 hDl HGD
            have HGS : Hid (wo.grownBy wo (some D)) := (Below.refl _ _).grownD _
            go_wp2_with fail
            clear t1 t2 e1 d1
            go_loopw [8, 57] (fun v8 xv wx => ∃ x : Nat, x ≤ M.l ∧ xv = .int .i64 (x : Int) ∧ v8 = .int .i64 (M.tbl.pasU F (M.tbl.pasD (trivB M)) 0 x : Int) ∧ Hid (KndD wx K D c M) ∧ Hid (OwnI wx w.heap.size (.slice (some ⟨b7, 0, none⟩) 1 1) (natsI F)) ∧ Hid (wo.grownBy wx (some D))) (fun _ xv _ => M.l - (intOf xv).toNat)
            case atStart => exact ⟨0, Nat.zero_le _, rfl, rfl, HKD.out, HFO.out, HGS.out⟩
            case round =>
              clear HKD HFO HGS
              obtain ⟨x, hx, rfl, rfl, HKD, HFO, HGS⟩ := hrel
              have ex : IntKind.i64.wrap ((x : Int) + 1) = (x : Int) + 1 := IntWalk.i64_in _ (by omega)
              by_cases hxl : x < M.l
              · obtain ⟨y, hy⟩ : ∃ y, y = M.nn z x := ⟨_, rfl⟩
                have hys : y < M.s := by rw [hy]; exact HLT.out z x hzs hxl
                have e3 := HE2.out wr HGS.out x hxl
                rw [← hy] at e3
                have HY : Hid (M.tbl.nx (F[0]?.getD 0) x = y) := by show _ = _; rw [HZ.out]; exact hy.symm
                have HPY2 := Lib.hid (HPY.out F (M.tbl.pasD (trivB M)) 0 x)
                have HPO2 := Lib.hid (HPO.out F (M.tbl.pasD (trivB M)) 0 x)
                rw [HY.out] at HPY2 HPO2
                have hIA : IntsAt wr (some ⟨b7, 0, none⟩) (natsI F) := by
                  obtain ⟨a', c', ef, h⟩ := HFO.out.form
                  injection ef with ef1 _ ef2
                  rw [ef1]; exact h
                have HCT := Lib.hid (slContainsI_any (some ⟨b7, 0, none⟩) 1 (natsI F) ((y : Nat) : Int) (by rw [natsI_len, HFE.out]; omega) wr hIA)
                rw [memI_nats, natsI_len, HFE.out] at HCT
                have HIU : Hid (F.contains y = false → ∀ W, KndD W K D c M → Calls Try.prog 77 #[.pointer (some ⟨K, 0, none⟩), .int .i64 (y : Int)] W (RetPs M y D c W)) := fun h W hW => HIH.out y (HUM.out y ⟨⟨z, HZF.out, x, hxl, hy.symm⟩, fun hm => by
                  rw [HFR.out, ← List.contains_iff_mem, h] at hm; cases hm⟩) W hW
                have hpb := HPB.out y
                have x1 : (0 : Int) ≤ (x : Int) := by omega
                have x2 : (x : Int) < (M.l : Int) := by omega
                generalize F.contains y = cb at *
                obtain ⟨u, hu⟩ : ∃ u, u = M.tbl.pasU F (M.tbl.pasD (trivB M)) 0 x := ⟨_, rfl⟩
                rw [← hu] at HPY2 HPO2 ⊢
                generalize hpy : M.tbl.pasD (trivB M) y = py at *
                clear hIA hy hu
                go_wp2_with fail
                refine HCT.out.mono ?_
                rintro e w5 ⟨rfl, d, rfl⟩
                have hdb : Below wr.heap.size wr (wr.drewN d) := ⟨rfl, rfl, rfl, Nat.le_refl _, fun _ _ => rfl⟩
                have HKD5 := Lib.hid (HKD.out.keep hdb)
                have HFO5 := Lib.hid (HFO.out.below hdb)
                have HGS5 := Lib.hid (HGS.out.trans (hdb.grownD _))
                clear HCT e3 HKD HFO HGS hdb
                generalize wr.drewN d = w5 at *
                cases cb with
                | true =>
                  have HU2 : Hid ((u : Int) = (M.tbl.pasU F (M.tbl.pasD (trivB M)) 0 (x + 1) : Int)) := by show _ = _; rw [HPO2.out rfl]
                  clear HPY2 HPO2 HIU
                  go_wp2_with fail
                  go_roundw
                  case rel => exact ⟨x + 1, by omega, by go_num, by rw [← HU2.out], HKD5.out, HFO5.out, HGS5.out⟩
                  case measure => simp [intOf] <;> omega
                | false =>
                  have HU2 : Hid (((max u py : Nat) : Int) = (M.tbl.pasU F (M.tbl.pasD (trivB M)) 0 (x + 1) : Int)) := by show _ = _; rw [HPY2.out rfl]
                  have HPC := Lib.hid (HIU.out rfl w5 HKD5.out)
                  have HPQ : Hid (M.tbl.pasD (trivB M) y = py) := hpy
                  clear HPY2 HPO2 HIU hpy
                  go_wp2_with fail
                  refine HPC.out.mono ?_
                  rintro e w6 ⟨rfl, hg6, hd6⟩
                  rw [HPQ.out]
                  have HKD6 := Lib.hid (HKD5.out.step hg6 hd6)
                  have HFO6 := Lib.hid (HFO5.out.gkeep hg6 HDL.out)
                  have HGS6 := Lib.hid (HGS5.out.trans hg6)
                  clear HPC hg6 hd6 HKD5 HFO5 HGS5
                  go_wp2_with fail
                  go_roundw
                  case rel => exact ⟨x + 1, by omega, by go_num, by first | (rw [← HU2.out]; done) | (rw [← HU2.out]; go_num), HKD6.out, HFO6.out, HGS6.out⟩
                  case measure => simp [intOf] <;> omega
              · have hx' : x = M.l := by omega
                subst hx'
                have x2 : ¬ ((M.l : Int) < (M.l : Int)) := by omega
                have HU2 : Hid ((M.tbl.pasU F (M.tbl.pasD (trivB M)) 0 M.l : Int) = (M.tbl.pasU F (M.tbl.pasD (trivB M)) (0 + 1) 0 : Int)) := by show _ = _; rw [HPN.out F _ 0 hil2]
                have HG2 := Lib.hid (HWO.out.trans HGS.out)
                go_wp2_with fail
                go_roundw
                case rel => exact ⟨0 + 1, by omega, by go_num, by rw [← HU2.out], HKD.out, HFO.out, HG2.out⟩
                case measure => simp [intOf] <;> omega
          · have hi' : 1 = i := by omega
            subst hi'
            have i2 : ¬ ((1 : Int) < (1 : Int)) := by omega
            have HV : Hid ((M.tbl.pasD (trivB M) q : Int) = ((M.tbl.pasU F (M.tbl.pasD (trivB M)) 1 0 : Nat) : Int) + 0) := by
              show _ = _
              rw [HPE.out, ← HPZ.out, HFR.out, HFE.out]; simp
            have hpq := HPB.out q
            have hup : M.tbl.pasU F (M.tbl.pasD (trivB M)) 1 0 ≤ 17 := by have := HV.out; omega
            have hd := HKD.out.hd
            obtain ⟨ds2, hl2, ho2, hv2⟩ := HKD.out.deg
            have ho3 : wr.ownsRow 0 2 1 (.slice (some ⟨D, 0, none⟩) M.s c) M.s (i64s ds2) := by
              have := ho2; rw [OwnI, hl2] at this; exact this
            have d1 := ho3.cellAt q (by omega)
            rw [i64s_get (by omega)] at d1
            have f1 := ho3.frozenAt q
            generalize ds2[q]?.getD 0 = old at *
            generalize hu : M.tbl.pasU F (M.tbl.pasD (trivB M)) 1 0 = u at *
            have eu : IntKind.i64.wrap ((u : Int) + 1) = (u : Int) + 1 := IntWalk.i64_in _ (by omega)
            have HST : Hid (∀ v : Int, v = (M.tbl.pasD (trivB M) q : Int) → w.grownBy (wr.setCell ⟨D, q, none⟩ (.int .i64 v)) (some D) ∧ DegR (wr.setCell ⟨D, q, none⟩ (.int .i64 v)) D c M) := fun v hv => by
              obtain ⟨s1, s2⟩ := ho3.stored q (.int .i64 v)
              refine ⟨HGD.out.trans s2, ds2.set q v, by simp [hl2], ?_, fun r hr => ?_⟩
              · rw [OwnI, List.length_set, hl2, i64s_setI]; exact s1
              · rw [set_getD (by omega)]
                by_cases e : r = q
                · rw [if_pos e, e]; exact .inr hv
                · rw [if_neg e]; exact hv2 r hr
            clear ho2 ho3 hv2 hu
            go_wp2_with fail
            go_ret
            obtain ⟨s1, s2⟩ := HST.out _ (by rw [HV.out]; try simp)
            exact ⟨by rw [HV.out]; try simp; try rfl, s1, s2⟩
end Go.Proofs.Ythgkkaifdlkciaa
