import Derived.Test.YthgkkaifdlkciaaYKind12
import Derived.Test.YthgkkaifdlkciaaYKind13
import Derived.Test.YthgkkaifdlkciaaYKind05
/- The reference's reach. -/
namespace Go.Proofs.Ythgkkaifdlkciaa
open Go.RowKit
set_option linter.unusedVariables false
set_option linter.unusedSimpArgs false

/-- an operation that is not wanted is passed -/
theorem AnyS.drop {P : Program} {ops : Array Oper} {Q : Exit → Act → World → Prop} {md : Region.Mode} {S : World → Prop} {L : List Nat} {i : Nat} {oi : Oper} {n : Nat} {listed : Array Bool} {a : Act} {w : World} (hi : ops.toList[i]? = some oi)
    (hs : Region.noSelect ops = true) (hf : Region.free md ops listed i = true) (hr : (Region.ready md ops listed).contains i = true) (hL : L.contains i = false)
    (hQ : ∀ c a w, Q (.panic c) (a.put oi.dst undef) w → Q (.panic c) a w) (hw : Region.wanted oi (yielded ops a.tmps) = false) (hS : Upto S L listed w)
    (h : Upto S L (listed.setIfInBounds i true) w → AnyS P md ops Q S L n (listed.setIfInBounds i true) (a.put oi.dst undef) w) : AnyS P md ops Q S L (n + 1) listed a w :=
  AnyS.first (S' := fun _ => True) (by rwa [Array.getElem?_toList] at hi) (Region.noSelect_spec hs) hQ (by simpa using hL) (.inl fun _ => trivial) n listed a w (Region.free_spec (by rwa [Array.getElem?_toList] at hi) hf) (.inl fun _ => trivial) (by simpa using hr) (.inr ⟨hw, rfl⟩) hS (h (hS.more (by simpa using hL)))

theorem zero_b2 : Try.zeroCells64.toList = b2L fun _ _ => false := by kernel_rfl

set_option maxRecDepth 100000 in
set_option maxHeartbeats 600000 in
theorem l09Reach_any (M : Mch) (hwf : M.Wf) (hok : M.Ok) (htv : M.tbl.Tv (trivB M)) (w : World) :
    Calls Try.prog 43 #[.agg M.cells.toArray, .agg (bls (trivB M)).toArray] w (fun e w' => ∃ f, (∀ p r, p < M.s → r < M.s → f p r = M.tbl.nb (trivB M) p r) ∧ e = .returned (.agg (b2L f).toArray) ∧ Below w.heap.size w w') := by
  have hs16 := hok.s_le
  have hs1 := hok.s_pos
  have hl3 := hok.l_le
  have hM := ((Mm.start w).alloc M.cells.toArray 28).alloc (bls (trivB M)).toArray 61
  have hM := hM.alloc Try.zeroCells64 64
  have hM := hM.alloc Try.zeroCells64 64
  simp only [World.size_alloc] at hM
  have ht := (hM.at 0 rfl).there 0 Try.zeroCells64.toList.length (by simp only; omega)
  have hM1 := hM.setAll 0 rfl (vs := Try.zeroCells64.toList) rfl
  have HM : Hid (Mm w.heap.size w (((((w.alloc (.cells M.cells.toArray 28)).alloc (.cells (bls (trivB M)).toArray 61)).alloc (.cells Try.zeroCells64 64)).alloc (.cells Try.zeroCells64 64)).setCells (w.heap.size + 1 + 1 + 1) 0 Try.zeroCells64.toList) [(w.heap.size + 1 + 1 + 1, b2L fun _ _ => false, 64), (w.heap.size + 1 + 1, b2L fun _ _ => false, 64), (w.heap.size + 1, bls (trivB M), 61), (w.heap.size, M.cells, 28)] []) := by
    show Mm _ _ _ _ _
    rw [← zero_b2]
    exact hM1
  have HI : Hid ((Try.prog.info? 64).map (·.size) = some Try.zeroCells64.toList.length) := by show _ = _; rw [zero_b2, b2L_len]; kernel_rfl
  have H1 : Hid (∀ v ∈ Try.zeroCells64.toList, v.oneCell' = true) := by show ∀ v ∈ _, _; rw [zero_b2]; exact b2L_one _
  have HTV := Lib.hid htv
  clear hM hM1 htv
  go_enter Try.func43, Try.ntmps43
  go_wp2_with ((with_reducible refine st_row ?_ 64 (.tmp 5) (.tmp 12) ?_ (w.heap.size + 1 + 1 + 1) 0 Try.zeroCells64.toList ?_ ?_ ht HI.out H1.out ?_); exact rfl; exact rfl; exact rfl; exact rfl)
  clear ht
  go_loopw [6] (fun qv wr => ∃ (q : Nat) (f : Nat → Nat → Bool), q ≤ M.s ∧ qv = .int .i64 (q : Int) ∧ Hid (∀ p r, f p r = M.tbl.eU (trivB M) q 0 p r) ∧ Mm w.heap.size w wr [(w.heap.size + 1 + 1 + 1, b2L f, 64), (w.heap.size + 1 + 1, b2L fun _ _ => false, 64), (w.heap.size + 1, bls (trivB M), 61), (w.heap.size, M.cells, 28)] []) (fun qv _ => M.s - (intOf qv).toNat)
  case atStart =>
    have := HM.out
    exact ⟨0, fun _ _ => false, Nat.zero_le _, rfl, fun p r => (Tbl.eU_start p r).symm, HM.out⟩
  case round =>
    clear HM
    obtain ⟨q, f, hq, rfl, HE, hM⟩ := hrel
    have eq : IntKind.i64.wrap ((q : Int) + 1) = (q : Int) + 1 := IntWalk.i64_in _ (by omega)
    have cs := (hM.mach 3 rfl).s
    rw [hok.S_eq] at cs
    by_cases hlt : q < M.s
    · have q1 : (0 : Int) ≤ (q : Int) := by omega
      have q2 : (q : Int) < 16 := by omega
      have q3 : (q : Int) < (M.s : Int) := by omega
      have HM := Lib.hid hM
      clear hM
      go_wp2_with fail
      clear cs
      go_loopw [7] (fun xv wr => ∃ (x : Nat) (f : Nat → Nat → Bool), x ≤ M.l ∧ xv = .int .i64 (x : Int) ∧ Hid (∀ p r, f p r = M.tbl.eU (trivB M) q x p r) ∧ Mm w.heap.size w wr [(w.heap.size + 1 + 1 + 1, b2L f, 64), (w.heap.size + 1 + 1, b2L fun _ _ => false, 64), (w.heap.size + 1, bls (trivB M), 61), (w.heap.size, M.cells, 28)] []) (fun xv _ => M.l - (intOf xv).toNat)
      case atStart => exact ⟨0, f, Nat.zero_le _, rfl, HE, HM.out⟩
      case round =>
        clear HM HE
        obtain ⟨x, f, hx, rfl, HE, hM⟩ := hrel
        have ex : IntKind.i64.wrap ((x : Int) + 1) = (x : Int) + 1 := IntWalk.i64_in _ (by omega)
        have cl := (hM.mach 3 rfl).l
        rw [hok.L_eq] at cl
        have ctq := (hM.at 2 rfl).cell' (bls_get (trivB M) (q := q) (by omega))
        have hqt : trivB M q = true → ∀ x p r, M.tbl.eU (trivB M) q x p r = M.tbl.eU (trivB M) (q + 1) 0 p r := fun h x p r => Tbl.eU_triv h p r
        have HQT := Lib.hid hqt
        clear hqt
        by_cases hxl : x < M.l
        · have i1 : (0 : Int) ≤ (x : Int) := by omega
          have i2 : (x : Int) < 3 := by omega
          have i3 : (x : Int) < (M.l : Int) := by omega
          have cn := (hM.mach 3 rfl).nn hwf (q := q) (x := x) (by omega) (by omega)
          rw [hok.n_eq hwf hlt hxl] at cn
          have hn := hok.nn_lt hwf hlt hxl
          have cty := (hM.at 2 rfl).cell' (bls_get (trivB M) (q := M.nn q x) (by omega))
          have HSK : Hid (trivB M (M.nn q x) = true → ∀ p r, M.tbl.eU (trivB M) q (x + 1) p r = M.tbl.eU (trivB M) q x p r) := fun h p r => Tbl.eU_skip (t := M.tbl) h p r
          have HST : Hid (trivB M q = false → trivB M (M.nn q x) = false → ∀ p r, M.tbl.eU (trivB M) q (x + 1) p r = upd2 (M.tbl.eU (trivB M) q x) q (M.nn q x) true p r) := fun h1 h2 p r => Tbl.eU_set (t := M.tbl) h1 h2 p r
          have i6 : (0 : Int) ≤ (M.nn q x : Int) := by omega
          have i7 : (M.nn q x : Int) < 16 := by omega
          have fo := (hM.at 0 rfl).free (q * 16 + M.nn q x)
          have co := (hM.at 0 rfl).cell' (b2L_get f (p := q) (r := M.nn q x) (by omega) (by omega))
          have hM2 := hM.setCell 0 rfl (q * 16 + M.nn q x) (.bool true)
          simp only [List.set_cons_zero] at hM2
          rw [b2L_set f true (by omega) (by omega)] at hM2
          have HM2 := Lib.hid hM2
          have HM := Lib.hid hM
          clear hM hM2
          generalize M.nn q x = y at *
          generalize hbq : trivB M q = bq at *
          generalize hby : trivB M y = bt at *
          cases bq with
          | true =>
            have HX := Lib.hid (HQT.out rfl x)
            clear HQT HSK HST hbq hby cn cty fo co
            go_wp2_with fail
            go_roundw
            case rel => exact ⟨q + 1, f, by omega, by go_num, fun p r => (HE.out p r).trans (HX.out p r), HM.out⟩
            case measure => simp [intOf] <;> omega
          | false =>
            cases bt with
            | true =>
              have HX := Lib.hid (HSK.out rfl)
              clear HQT HSK HST hbq hby fo co
              go_wp2_with fail
              go_roundw
              case rel => exact ⟨x + 1, f, by omega, by go_num, fun p r => (HE.out p r).trans (HX.out p r).symm, HM.out⟩
              case measure => simp [intOf] <;> omega
            | false =>
              have HX := Lib.hid (HST.out rfl rfl)
              clear HQT HSK HST hbq hby
              go_wp2_with fail
              go_roundw
              case rel => exact ⟨x + 1, _, by omega, by go_num, fun p r => by rw [HX.out p r]; unfold upd2; rw [HE.out], HM2.out⟩
              case measure => simp [intOf] <;> omega
        · obtain rfl : x = M.l := by omega
          have i3 : ¬ ((M.l : Int) < (M.l : Int)) := by omega
          have HX : Hid (∀ p r, M.tbl.eU (trivB M) q M.l p r = M.tbl.eU (trivB M) (q + 1) 0 p r) := fun p r => Tbl.eU_next (t := M.tbl) hlt p r
          have HM := Lib.hid hM
          clear hM HQT ctq
          go_wp2_with fail
          go_roundw
          case rel => exact ⟨q + 1, f, by omega, by go_num, fun p r => (HE.out p r).trans (HX.out p r), HM.out⟩
          case measure => simp [intOf] <;> omega
    · obtain rfl : q = M.s := by omega
      have q3 : ¬ ((M.s : Int) < (M.s : Int)) := by omega
      have HM := Lib.hid hM
      clear hM
      go_wp2_with fail
      clear cs
      go_loopw [9] (fun kv wr => ∃ (k : Nat) (f : Nat → Nat → Bool), k ≤ M.s ∧ kv = .int .i64 (k : Int) ∧ Hid (∀ p r, p < M.s → r < M.s → f p r = fwB (M.tbl.eB (trivB M)) k p r) ∧ Mm w.heap.size w wr [(w.heap.size + 1 + 1 + 1, b2L f, 64), (w.heap.size + 1 + 1, b2L fun _ _ => false, 64), (w.heap.size + 1, bls (trivB M), 61), (w.heap.size, M.cells, 28)] []) (fun kv _ => M.s - (intOf kv).toNat)
      case atStart => exact ⟨0, f, Nat.zero_le _, rfl, fun p r hp hr => (HE.out p r).trans (Tbl.eU_end (t := M.tbl) p r), HM.out⟩
      case round =>
        clear HM HE
        obtain ⟨k, f, hk, rfl, HE, hM⟩ := hrel
        have ek : IntKind.i64.wrap ((k : Int) + 1) = (k : Int) + 1 := IntWalk.i64_in _ (by omega)
        have cs := (hM.mach 3 rfl).s
        rw [hok.S_eq] at cs
        by_cases hklt : k < M.s
        · have k1 : (0 : Int) ≤ (k : Int) := by omega
          have k2 : (k : Int) < 16 := by omega
          have k3 : (k : Int) < (M.s : Int) := by omega
          have HM := Lib.hid hM
          clear hM
          go_wp2_with fail
          clear cs
          go_loopw [10] (fun iv wr => ∃ (i : Nat) (f : Nat → Nat → Bool), i ≤ M.s ∧ iv = .int .i64 (i : Int) ∧ Hid (∀ p r, p < M.s → r < M.s → f p r = fwAt (M.tbl.eB (trivB M)) k i 0 p r) ∧ Mm w.heap.size w wr [(w.heap.size + 1 + 1 + 1, b2L f, 64), (w.heap.size + 1 + 1, b2L fun _ _ => false, 64), (w.heap.size + 1, bls (trivB M), 61), (w.heap.size, M.cells, 28)] []) (fun iv _ => M.s - (intOf iv).toNat)
          case atStart => exact ⟨0, f, Nat.zero_le _, rfl, fun p r hp hr => (HE.out p r hp hr).trans (fwAt_start _ k p r).symm, HM.out⟩
          case round =>
            clear HM HE
            obtain ⟨i, f, hi, rfl, HE, hM⟩ := hrel
            have ei : IntKind.i64.wrap ((i : Int) + 1) = (i : Int) + 1 := IntWalk.i64_in _ (by omega)
            have cs := (hM.mach 3 rfl).s
            rw [hok.S_eq] at cs
            by_cases hilt : i < M.s
            · have i1 : (0 : Int) ≤ (i : Int) := by omega
              have i2 : (i : Int) < 16 := by omega
              have i3 : (i : Int) < (M.s : Int) := by omega
              have HM := Lib.hid hM
              clear hM
              go_wp2_with fail
              clear cs
              go_loopw [11] (fun jv wr => ∃ (j : Nat) (f : Nat → Nat → Bool), j ≤ M.s ∧ jv = .int .i64 (j : Int) ∧ Hid (∀ p r, p < M.s → r < M.s → f p r = fwAt (M.tbl.eB (trivB M)) k i j p r) ∧ Mm w.heap.size w wr [(w.heap.size + 1 + 1 + 1, b2L f, 64), (w.heap.size + 1 + 1, b2L fun _ _ => false, 64), (w.heap.size + 1, bls (trivB M), 61), (w.heap.size, M.cells, 28)] []) (fun jv _ => M.s - (intOf jv).toNat)
              case atStart => exact ⟨0, f, Nat.zero_le _, rfl, HE, HM.out⟩
              case round =>
                clear HM HE
                obtain ⟨j, f, hj, rfl, HE, hM⟩ := hrel
                have ej : IntKind.i64.wrap ((j : Int) + 1) = (j : Int) + 1 := IntWalk.i64_in _ (by omega)
                have cs := (hM.mach 3 rfl).s
                rw [hok.S_eq] at cs
                by_cases hjlt : j < M.s
                · have j1 : (0 : Int) ≤ (j : Int) := by omega
                  have j2 : (j : Int) < 16 := by omega
                  have j3 : (j : Int) < (M.s : Int) := by omega
                  have hMd := hM.drew
                  have C1 := Lib.hid ((hMd.at 0 rfl).cell' (b2L_get f (p := i) (r := j) (by omega) (by omega)))
                  have C2 := Lib.hid ((hMd.at 0 rfl).cell' (b2L_get f (p := i) (r := k) (by omega) (by omega)))
                  have C3 := Lib.hid ((hMd.at 0 rfl).cell' (b2L_get f (p := k) (r := j) (by omega) (by omega)))
                  have FO := Lib.hid ((hMd.at 0 rfl).free (i * 16 + j))
                  have HV : Hid (∀ b, b = (f i j || (f i k && f k j)) → ∀ p r, p < M.s → r < M.s → upd2 f i j b p r = fwAt (M.tbl.eB (trivB M)) k i (j + 1) p r) := fun b hb p r hp hr => by
                    rw [fwAt_set, ← HE.out i j hilt hjlt, ← HE.out i k hilt hklt, ← HE.out k j hklt hjlt, ← HE.out p r hp hr, ← hb]; rfl
                  have HS : Hid (∀ b, Mm w.heap.size w (wr.drew.setCell ⟨w.heap.size + 1 + 1 + 1, i * 16 + j, none⟩ (.bool b)) [(w.heap.size + 1 + 1 + 1, b2L (upd2 f i j b), 64), (w.heap.size + 1 + 1, b2L fun _ _ => false, 64), (w.heap.size + 1, bls (trivB M), 61), (w.heap.size, M.cells, 28)] []) := fun b => by
                    have h := hMd.setCell 0 rfl (i * 16 + j) (.bool b)
                    simp only [List.set_cons_zero] at h
                    rwa [b2L_set f b (by omega) (by omega)] at h
                  have HMX := Lib.hid (show Try.prog.follows .mixedOrders = true by kernel_rfl)
                  clear hM hMd HE
                  generalize hb1 : f i j = b1 at *
                  generalize hb2 : f i k = b2 at *
                  generalize hb3 : f k j = b3 at *
                  clear hb1 hb2 hb3
                  go_wp2_with fail
                  clear cs
                  refine region_S (fun W => W.cell? ⟨w.heap.size + 1 + 1 + 1, i * 16 + j, none⟩ = some (.bool b1) ∧ W.cell? ⟨w.heap.size + 1 + 1 + 1, i * 16 + k, none⟩ = some (.bool b2) ∧ W.cell? ⟨w.heap.size + 1 + 1 + 1, k * 16 + j, none⟩ = some (.bool b3)) [23] 24 rfl HMX.out ⟨C1.out, C2.out, C3.out⟩ (fun hU => ?_)
                  obtain ⟨W, hW⟩ : ∃ W, W = wr.drew := ⟨_, rfl⟩
                  rw [← hW] at hU FO HS C1 ⊢
                  clear hW C2 C3
                  (refine AnyS.take (i := 0) rfl (by kernel_rfl) (by kernel_rfl) (by kernel_rfl) (by rfl) (fun _ _ _ h => h) (by rfl) (by intro w; go_simp; with_reducible rfl) hU (fun hU => ?_); (try simp only [Act.put, List.setIfInBounds_toArray, List.set_cons_zero, List.set_cons_succ]); refine AnyS.take (i := 1) rfl (by kernel_rfl) (by kernel_rfl) (by kernel_rfl) (by rfl) (fun _ _ _ h => h) (by rfl) (by intro w; go_simp; with_reducible rfl) hU (fun hU => ?_); (try simp only [Act.put, List.setIfInBounds_toArray, List.set_cons_zero, List.set_cons_succ]); refine AnyS.take (i := 2) rfl (by kernel_rfl) (by kernel_rfl) (by kernel_rfl) (by rfl) (fun _ _ _ h => h) (by rfl) (by intro w; go_simp; with_reducible rfl) hU (fun hU => ?_); (try simp only [Act.put, List.setIfInBounds_toArray, List.set_cons_zero, List.set_cons_succ]); refine AnyS.take (i := 3) rfl (by kernel_rfl) (by kernel_rfl) (by kernel_rfl) (by rfl) (fun _ _ _ h => h) (by rfl) (by intro w; go_simp; with_reducible rfl) hU (fun hU => ?_); (try simp only [Act.put, List.setIfInBounds_toArray, List.set_cons_zero, List.set_cons_succ]); refine AnyS.take (i := 4) rfl (by kernel_rfl) (by kernel_rfl) (by kernel_rfl) (by rfl) (fun _ _ _ h => h) (by rfl) (by intro w; go_simp; with_reducible rfl) hU (fun hU => ?_); (try simp only [Act.put, List.setIfInBounds_toArray, List.set_cons_zero, List.set_cons_succ]); refine AnyS.take (i := 5) rfl (by kernel_rfl) (by kernel_rfl) (by kernel_rfl) (by rfl) (fun _ _ _ h => h) (by rfl) (by intro w; go_simp; with_reducible rfl) hU (fun hU => ?_); (try simp only [Act.put, List.setIfInBounds_toArray, List.set_cons_zero, List.set_cons_succ]))
                  (refine AnyS.takeS (i := 6) rfl (by kernel_rfl) (by kernel_rfl) (by kernel_rfl) (by rfl) (by kernel_rfl) (by kernel_rfl) (fun _ _ _ h => h) (by rfl) (by intro W hSw; have h1 := hSw.1; clear hSw; go_simp; with_reducible rfl) hU (fun hU => ?_); (try simp only [Act.put, List.setIfInBounds_toArray, List.set_cons_zero, List.set_cons_succ]))
                  (refine AnyS.take (i := 7) rfl (by kernel_rfl) (by kernel_rfl) (by kernel_rfl) (by rfl) (fun _ _ _ h => h) (by rfl) (by intro w; go_simp; with_reducible rfl) hU (fun hU => ?_); (try simp only [Act.put, List.setIfInBounds_toArray, List.set_cons_zero, List.set_cons_succ]))
                  cases b1 with
                  | true =>
                    (refine AnyS.drop (i := 8) rfl (by kernel_rfl) (by kernel_rfl) (by kernel_rfl) (by rfl) (fun _ _ _ h => h) (by rfl) hU (fun hU => ?_); (try simp only [Act.put, List.setIfInBounds_toArray, List.set_cons_zero, List.set_cons_succ]); refine AnyS.drop (i := 9) rfl (by kernel_rfl) (by kernel_rfl) (by kernel_rfl) (by rfl) (fun _ _ _ h => h) (by rfl) hU (fun hU => ?_); (try simp only [Act.put, List.setIfInBounds_toArray, List.set_cons_zero, List.set_cons_succ]); refine AnyS.drop (i := 10) rfl (by kernel_rfl) (by kernel_rfl) (by kernel_rfl) (by rfl) (fun _ _ _ h => h) (by rfl) hU (fun hU => ?_); (try simp only [Act.put, List.setIfInBounds_toArray, List.set_cons_zero, List.set_cons_succ]); refine AnyS.drop (i := 11) rfl (by kernel_rfl) (by kernel_rfl) (by kernel_rfl) (by rfl) (fun _ _ _ h => h) (by rfl) hU (fun hU => ?_); (try simp only [Act.put, List.setIfInBounds_toArray, List.set_cons_zero, List.set_cons_succ]); refine AnyS.drop (i := 12) rfl (by kernel_rfl) (by kernel_rfl) (by kernel_rfl) (by rfl) (fun _ _ _ h => h) (by rfl) hU (fun hU => ?_); (try simp only [Act.put, List.setIfInBounds_toArray, List.set_cons_zero, List.set_cons_succ]); refine AnyS.drop (i := 13) rfl (by kernel_rfl) (by kernel_rfl) (by kernel_rfl) (by rfl) (fun _ _ _ h => h) (by rfl) hU (fun hU => ?_); (try simp only [Act.put, List.setIfInBounds_toArray, List.set_cons_zero, List.set_cons_succ]); refine AnyS.drop (i := 14) rfl (by kernel_rfl) (by kernel_rfl) (by kernel_rfl) (by rfl) (fun _ _ _ h => h) (by rfl) hU (fun hU => ?_); (try simp only [Act.put, List.setIfInBounds_toArray, List.set_cons_zero, List.set_cons_succ]); refine AnyS.drop (i := 15) rfl (by kernel_rfl) (by kernel_rfl) (by kernel_rfl) (by rfl) (fun _ _ _ h => h) (by rfl) hU (fun hU => ?_); (try simp only [Act.put, List.setIfInBounds_toArray, List.set_cons_zero, List.set_cons_succ]); refine AnyS.drop (i := 16) rfl (by kernel_rfl) (by kernel_rfl) (by kernel_rfl) (by rfl) (fun _ _ _ h => h) (by rfl) hU (fun hU => ?_); (try simp only [Act.put, List.setIfInBounds_toArray, List.set_cons_zero, List.set_cons_succ]); refine AnyS.drop (i := 17) rfl (by kernel_rfl) (by kernel_rfl) (by kernel_rfl) (by rfl) (fun _ _ _ h => h) (by rfl) hU (fun hU => ?_); (try simp only [Act.put, List.setIfInBounds_toArray, List.set_cons_zero, List.set_cons_succ]); refine AnyS.drop (i := 18) rfl (by kernel_rfl) (by kernel_rfl) (by kernel_rfl) (by rfl) (fun _ _ _ h => h) (by rfl) hU (fun hU => ?_); (try simp only [Act.put, List.setIfInBounds_toArray, List.set_cons_zero, List.set_cons_succ]); refine AnyS.drop (i := 19) rfl (by kernel_rfl) (by kernel_rfl) (by kernel_rfl) (by rfl) (fun _ _ _ h => h) (by rfl) hU (fun hU => ?_); (try simp only [Act.put, List.setIfInBounds_toArray, List.set_cons_zero, List.set_cons_succ]))
                    (refine AnyS.take (i := 20) rfl (by kernel_rfl) (by kernel_rfl) (by kernel_rfl) (by rfl) (fun _ _ _ h => h) (by rfl) (by intro w; go_simp; with_reducible rfl) hU (fun hU => ?_); (try simp only [Act.put, List.setIfInBounds_toArray, List.set_cons_zero, List.set_cons_succ]); refine AnyS.take (i := 21) rfl (by kernel_rfl) (by kernel_rfl) (by kernel_rfl) (by rfl) (fun _ _ _ h => h) (by rfl) (by intro w; go_simp; with_reducible rfl) hU (fun hU => ?_); (try simp only [Act.put, List.setIfInBounds_toArray, List.set_cons_zero, List.set_cons_succ]); refine AnyS.take (i := 22) rfl (by kernel_rfl) (by kernel_rfl) (by kernel_rfl) (by rfl) (fun _ _ _ h => h) (by rfl) (by intro w; go_simp; with_reducible rfl) hU (fun hU => ?_); (try simp only [Act.put, List.setIfInBounds_toArray, List.set_cons_zero, List.set_cons_succ]))
                    have f1 := FO.out
                    have c1 := C1.out
                    (refine AnyS.branch (rs := [23]) (by kernel_rfl) (List.cons_ne_nil _ _) ?_; refine AllS.cons rfl ?_ AllS.nil; intro K hK)
                    go_simp
                    refine hK.out _ _ (.inr ⟨23, by simp, by rfl⟩) (fun hU => ?_)
                    clear hK K f1 c1
                    (try simp only [Act.put, List.setIfInBounds_toArray, List.set_cons_zero, List.set_cons_succ])
                    refine AnyS.done (by kernel_rfl) ?_ _
                    clear hU
                    go_wp2_with fail
                    go_roundw
                    case rel => exact ⟨j + 1, _, by omega, by go_num, HV.out true rfl, HS.out true⟩
                    case measure => simp [intOf] <;> omega
                  | false =>
                    (refine AnyS.take (i := 8) rfl (by kernel_rfl) (by kernel_rfl) (by kernel_rfl) (by rfl) (fun _ _ _ h => h) (by rfl) (by intro w; go_simp; with_reducible rfl) hU (fun hU => ?_); (try simp only [Act.put, List.setIfInBounds_toArray, List.set_cons_zero, List.set_cons_succ]); refine AnyS.take (i := 9) rfl (by kernel_rfl) (by kernel_rfl) (by kernel_rfl) (by rfl) (fun _ _ _ h => h) (by rfl) (by intro w; go_simp; with_reducible rfl) hU (fun hU => ?_); (try simp only [Act.put, List.setIfInBounds_toArray, List.set_cons_zero, List.set_cons_succ]); refine AnyS.take (i := 10) rfl (by kernel_rfl) (by kernel_rfl) (by kernel_rfl) (by rfl) (fun _ _ _ h => h) (by rfl) (by intro w; go_simp; with_reducible rfl) hU (fun hU => ?_); (try simp only [Act.put, List.setIfInBounds_toArray, List.set_cons_zero, List.set_cons_succ]); refine AnyS.take (i := 11) rfl (by kernel_rfl) (by kernel_rfl) (by kernel_rfl) (by rfl) (fun _ _ _ h => h) (by rfl) (by intro w; go_simp; with_reducible rfl) hU (fun hU => ?_); (try simp only [Act.put, List.setIfInBounds_toArray, List.set_cons_zero, List.set_cons_succ]))
                    (refine AnyS.takeS (i := 12) rfl (by kernel_rfl) (by kernel_rfl) (by kernel_rfl) (by rfl) (by kernel_rfl) (by kernel_rfl) (fun _ _ _ h => h) (by rfl) (by intro W hSw; have h1 := hSw.2.1; clear hSw; go_simp; with_reducible rfl) hU (fun hU => ?_); (try simp only [Act.put, List.setIfInBounds_toArray, List.set_cons_zero, List.set_cons_succ]))
                    (refine AnyS.take (i := 13) rfl (by kernel_rfl) (by kernel_rfl) (by kernel_rfl) (by rfl) (fun _ _ _ h => h) (by rfl) (by intro w; go_simp; with_reducible rfl) hU (fun hU => ?_); (try simp only [Act.put, List.setIfInBounds_toArray, List.set_cons_zero, List.set_cons_succ]))
                    cases b2 with
                    | false =>
                      (refine AnyS.drop (i := 14) rfl (by kernel_rfl) (by kernel_rfl) (by kernel_rfl) (by rfl) (fun _ _ _ h => h) (by rfl) hU (fun hU => ?_); (try simp only [Act.put, List.setIfInBounds_toArray, List.set_cons_zero, List.set_cons_succ]); refine AnyS.drop (i := 15) rfl (by kernel_rfl) (by kernel_rfl) (by kernel_rfl) (by rfl) (fun _ _ _ h => h) (by rfl) hU (fun hU => ?_); (try simp only [Act.put, List.setIfInBounds_toArray, List.set_cons_zero, List.set_cons_succ]); refine AnyS.drop (i := 16) rfl (by kernel_rfl) (by kernel_rfl) (by kernel_rfl) (by rfl) (fun _ _ _ h => h) (by rfl) hU (fun hU => ?_); (try simp only [Act.put, List.setIfInBounds_toArray, List.set_cons_zero, List.set_cons_succ]); refine AnyS.drop (i := 17) rfl (by kernel_rfl) (by kernel_rfl) (by kernel_rfl) (by rfl) (fun _ _ _ h => h) (by rfl) hU (fun hU => ?_); (try simp only [Act.put, List.setIfInBounds_toArray, List.set_cons_zero, List.set_cons_succ]); refine AnyS.drop (i := 18) rfl (by kernel_rfl) (by kernel_rfl) (by kernel_rfl) (by rfl) (fun _ _ _ h => h) (by rfl) hU (fun hU => ?_); (try simp only [Act.put, List.setIfInBounds_toArray, List.set_cons_zero, List.set_cons_succ]))
                      (refine AnyS.take (i := 19) rfl (by kernel_rfl) (by kernel_rfl) (by kernel_rfl) (by rfl) (fun _ _ _ h => h) (by rfl) (by intro w; go_simp; with_reducible rfl) hU (fun hU => ?_); (try simp only [Act.put, List.setIfInBounds_toArray, List.set_cons_zero, List.set_cons_succ]); refine AnyS.take (i := 20) rfl (by kernel_rfl) (by kernel_rfl) (by kernel_rfl) (by rfl) (fun _ _ _ h => h) (by rfl) (by intro w; go_simp; with_reducible rfl) hU (fun hU => ?_); (try simp only [Act.put, List.setIfInBounds_toArray, List.set_cons_zero, List.set_cons_succ]); refine AnyS.take (i := 21) rfl (by kernel_rfl) (by kernel_rfl) (by kernel_rfl) (by rfl) (fun _ _ _ h => h) (by rfl) (by intro w; go_simp; with_reducible rfl) hU (fun hU => ?_); (try simp only [Act.put, List.setIfInBounds_toArray, List.set_cons_zero, List.set_cons_succ]); refine AnyS.take (i := 22) rfl (by kernel_rfl) (by kernel_rfl) (by kernel_rfl) (by rfl) (fun _ _ _ h => h) (by rfl) (by intro w; go_simp; with_reducible rfl) hU (fun hU => ?_); (try simp only [Act.put, List.setIfInBounds_toArray, List.set_cons_zero, List.set_cons_succ]))
                      have f1 := FO.out
                      have c1 := C1.out
                      (refine AnyS.branch (rs := [23]) (by kernel_rfl) (List.cons_ne_nil _ _) ?_; refine AllS.cons rfl ?_ AllS.nil; intro K hK)
                      go_simp
                      refine hK.out _ _ (.inr ⟨23, by simp, by rfl⟩) (fun hU => ?_)
                      clear hK K f1 c1
                      (try simp only [Act.put, List.setIfInBounds_toArray, List.set_cons_zero, List.set_cons_succ])
                      refine AnyS.done (by kernel_rfl) ?_ _
                      clear hU
                      go_wp2_with fail
                      go_roundw
                      case rel => exact ⟨j + 1, _, by omega, by go_num, HV.out false rfl, HS.out false⟩
                      case measure => simp [intOf] <;> omega
                    | true =>
                      (refine AnyS.take (i := 14) rfl (by kernel_rfl) (by kernel_rfl) (by kernel_rfl) (by rfl) (fun _ _ _ h => h) (by rfl) (by intro w; go_simp; with_reducible rfl) hU (fun hU => ?_); (try simp only [Act.put, List.setIfInBounds_toArray, List.set_cons_zero, List.set_cons_succ]); refine AnyS.take (i := 15) rfl (by kernel_rfl) (by kernel_rfl) (by kernel_rfl) (by rfl) (fun _ _ _ h => h) (by rfl) (by intro w; go_simp; with_reducible rfl) hU (fun hU => ?_); (try simp only [Act.put, List.setIfInBounds_toArray, List.set_cons_zero, List.set_cons_succ]); refine AnyS.take (i := 16) rfl (by kernel_rfl) (by kernel_rfl) (by kernel_rfl) (by rfl) (fun _ _ _ h => h) (by rfl) (by intro w; go_simp; with_reducible rfl) hU (fun hU => ?_); (try simp only [Act.put, List.setIfInBounds_toArray, List.set_cons_zero, List.set_cons_succ]); refine AnyS.take (i := 17) rfl (by kernel_rfl) (by kernel_rfl) (by kernel_rfl) (by rfl) (fun _ _ _ h => h) (by rfl) (by intro w; go_simp; with_reducible rfl) hU (fun hU => ?_); (try simp only [Act.put, List.setIfInBounds_toArray, List.set_cons_zero, List.set_cons_succ]))
                      (refine AnyS.takeS (i := 18) rfl (by kernel_rfl) (by kernel_rfl) (by kernel_rfl) (by rfl) (by kernel_rfl) (by kernel_rfl) (fun _ _ _ h => h) (by rfl) (by intro W hSw; have h1 := hSw.2.2; clear hSw; go_simp; with_reducible rfl) hU (fun hU => ?_); (try simp only [Act.put, List.setIfInBounds_toArray, List.set_cons_zero, List.set_cons_succ]))
                      (refine AnyS.take (i := 19) rfl (by kernel_rfl) (by kernel_rfl) (by kernel_rfl) (by rfl) (fun _ _ _ h => h) (by rfl) (by intro w; go_simp; with_reducible rfl) hU (fun hU => ?_); (try simp only [Act.put, List.setIfInBounds_toArray, List.set_cons_zero, List.set_cons_succ]); refine AnyS.take (i := 20) rfl (by kernel_rfl) (by kernel_rfl) (by kernel_rfl) (by rfl) (fun _ _ _ h => h) (by rfl) (by intro w; go_simp; with_reducible rfl) hU (fun hU => ?_); (try simp only [Act.put, List.setIfInBounds_toArray, List.set_cons_zero, List.set_cons_succ]); refine AnyS.take (i := 21) rfl (by kernel_rfl) (by kernel_rfl) (by kernel_rfl) (by rfl) (fun _ _ _ h => h) (by rfl) (by intro w; go_simp; with_reducible rfl) hU (fun hU => ?_); (try simp only [Act.put, List.setIfInBounds_toArray, List.set_cons_zero, List.set_cons_succ]); refine AnyS.take (i := 22) rfl (by kernel_rfl) (by kernel_rfl) (by kernel_rfl) (by rfl) (fun _ _ _ h => h) (by rfl) (by intro w; go_simp; with_reducible rfl) hU (fun hU => ?_); (try simp only [Act.put, List.setIfInBounds_toArray, List.set_cons_zero, List.set_cons_succ]))
                      have f1 := FO.out
                      have c1 := C1.out
                      (refine AnyS.branch (rs := [23]) (by kernel_rfl) (List.cons_ne_nil _ _) ?_; refine AllS.cons rfl ?_ AllS.nil; intro K hK)
                      go_simp
                      refine hK.out _ _ (.inr ⟨23, by simp, by rfl⟩) (fun hU => ?_)
                      clear hK K f1 c1
                      (try simp only [Act.put, List.setIfInBounds_toArray, List.set_cons_zero, List.set_cons_succ])
                      refine AnyS.done (by kernel_rfl) ?_ _
                      clear hU
                      go_wp2_with fail
                      go_roundw
                      case rel => exact ⟨j + 1, _, by omega, by go_num, HV.out b3 (by simp), HS.out b3⟩
                      case measure => simp [intOf] <;> omega
                · obtain rfl : j = M.s := by omega
                  have j3 : ¬ ((M.s : Int) < (M.s : Int)) := by omega
                  have HX : Hid (∀ p r, p < M.s → r < M.s → f p r = fwAt (M.tbl.eB (trivB M)) k (i + 1) 0 p r) := fun p r hp hr => (HE.out p r hp hr).trans (fwAt_next _ k i p r hr)
                  have HM := Lib.hid hM
                  clear hM HE
                  go_wp2_with fail
                  go_roundw
                  case rel => exact ⟨i + 1, f, by omega, by go_num, HX.out, HM.out⟩
                  case measure => simp [intOf] <;> omega
            · obtain rfl : i = M.s := by omega
              have i3 : ¬ ((M.s : Int) < (M.s : Int)) := by omega
              have HX : Hid (∀ p r, p < M.s → r < M.s → f p r = fwB (M.tbl.eB (trivB M)) (k + 1) p r) := fun p r hp hr => (HE.out p r hp hr).trans (fwAt_end _ k p r hp)
              have HM := Lib.hid hM
              clear hM HE
              go_wp2_with fail
              go_roundw
              case rel => exact ⟨k + 1, f, by omega, by go_num, HX.out, HM.out⟩
              case measure => simp [intOf] <;> omega
        · obtain rfl : k = M.s := by omega
          have k3 : ¬ ((M.s : Int) < (M.s : Int)) := by omega
          have HNB : Hid (∀ p r, p < M.s → r < M.s → f p r = M.tbl.nb (trivB M) p r) := fun p r hp hr => (HE.out p r hp hr).trans (Tbl.fw_nb HTV.out hp)
          have hr0 := (hM.at 0 rfl).all
          have ht0 := (hM.at 1 rfl).there 0 (b2L f).length (by simp only [b2L_len]; omega)
          have hM5 := hM.setAll 1 rfl (vs := b2L f) (by rw [b2L_len, b2L_len])
          have hres := hM5.at 1 rfl
          have hbl := hM5.below
          have HIC : Hid ((Try.prog.info? 64).map (·.size) = some (b2L f).length) := by show _ = _; rw [b2L_len]; kernel_rfl
          have H1 := Lib.hid (b2L_one f)
          have HFF : Hid (∃ g, (∀ p r, p < M.s → r < M.s → g p r = M.tbl.nb (trivB M) p r) ∧ b2L f = b2L g) := ⟨f, HNB.out, rfl⟩
          clear hM hM5 HE HNB HI HTV
          generalize b2L f = C at *
          go_wp2_with (first | ((with_reducible refine ld_row ?_ 64 (.tmp 5) ?_ (w.heap.size + 1 + 1 + 1) 0 ?_ C (.array 16 61) hr0 Try.underlying64 ?_ HIC.out ?_); exact rfl; exact rfl; exact rfl; exact rfl) | ((with_reducible refine st_row ?_ 64 (.tmp 4) (.tmp 86) ?_ (w.heap.size + 1 + 1) 0 C ?_ ?_ ht0 HIC.out H1.out ?_); exact rfl; exact rfl; exact rfl; exact rfl))
          refine bodyPost_ret (v := .agg C.toArray) (results_cell_row Try.results43 _ _ (w.heap.size + 1 + 1) 64 C.toArray (0, 0) (.array 16 61) rfl hres Try.underlying64 rfl (HIC.out.trans (by rw [List.size_toArray]))) rfl ?_
          obtain ⟨g, hg, e⟩ := HFF.out
          exact ⟨g, hg, by rw [e], hbl⟩
end Go.Proofs.Ythgkkaifdlkciaa

/- l09Reduced and l09Kind. -/
namespace Go.Proofs.Ythgkkaifdlkciaa
open Go.RowKit
set_option linter.unusedVariables false
set_option linter.unusedSimpArgs false

theorem results_ctc {P : Program} {fn : Func} {p r q : Tmp} {ty ty2 : TypeId} (h : fn.results = #[.cell p ty, .tmp r, .cell q ty2]) (tmps : Array Value) (w : World) (g : Nat) (t : TypeId) (cs : Array Value) (fr : Nat × Nat) (d : TypeDesc)
    (hp : tmps.getD p undef = .pointer (some ⟨g, 0, none⟩)) (hg : w.heap[g]? = some (.cells cs t fr))
    (hu : P.underlying ty = some d) (hd : (match d with | .struct _ | .array _ _ => true | _ => false) = true) (hi : (P.info? ty).map (·.size) = some cs.size)
    (g2 : Nat) (t2 : TypeId) (cs2 : Array Value) (fr2 : Nat × Nat) (d2 : TypeDesc)
    (hp2 : tmps.getD q undef = .pointer (some ⟨g2, 0, none⟩)) (hg2 : w.heap[g2]? = some (.cells cs2 t2 fr2))
    (hu2 : P.underlying ty2 = some d2) (hd2 : (match d2 with | .struct _ | .array _ _ => true | _ => false) = true) (hi2 : (P.info? ty2).map (·.size) = some cs2.size) :
    (results fn tmps).run P w = .ok (.tuple #[.agg cs, tmps.getD r undef, .agg cs2]) w := by
  have hp' : tmps[p]?.getD undef = .pointer (some ⟨g, 0, none⟩) := by simpa using hp
  have hq' : tmps[q]?.getD undef = .pointer (some ⟨g2, 0, none⟩) := by simpa using hp2
  simp [results, h, hp', hq', asAddr, run_loadVar_row w g t ty cs fr d hg hu hd hi, run_loadVar_row w g2 t2 ty2 cs2 fr2 d2 hg2 hu2 hd2 hi2]

set_option maxRecDepth 100000 in
set_option maxHeartbeats 1000000 in
theorem l09Reduced_any (m : Mch) (hwf : m.Wf) (hok : m.Ok) (q : Nat) (hq : q < m.s) (w : World) :
    Calls Try.prog 42 #[.agg m.cells.toArray, .int .i64 (q : Int)] w (Ret (.tuple #[.agg (minM m).cells.toArray, .int .i64 (m.tbl.num q : Int), .agg (bls (trivB (minM m))).toArray]) w) := by
  have hs16 := hok.s_le
  have hwM := minM_wf hok hwf
  have HMX := Lib.hid (show Try.prog.follows .mixedOrders = true by kernel_rfl)
  have HIM2 := Lib.hid (mach_infoT hwM)
  have HMI := Lib.hid (mach_info hwM)
  have HM1 := Lib.hid (mach_ones (minM m))
  have HIN := Lib.hid (nvs16_info (numU m m.s))
  have HN1 := Lib.hid (nvs_one 16 (numU m m.s))
  have HML := Lib.hid (Mch.cells_length hwM)
  have HNL : Hid ((nvs 16 (numU m m.s)).length = 16) := nvs_len _ _
  have HNQ : Hid (numU m m.s q = m.tbl.num q) := if_pos hq
  have HTM := Lib.hid (l01Trivial_any (minM m) hwM (minM_ok hok hwf))
  have hm := MAt.boxed w m 28
  have q1 : (0 : Int) ≤ (q : Int) := by omega
  have q2 : (q : Int) < 16 := by omega
  have hM0 := (((Mm.start w).alloc m.cells.toArray 28).alloc Try.zeroCells28 28).alloc #[.bool false, .bool false, .bool false, .bool false, .bool false, .bool false, .bool false, .bool false, .bool false, .bool false, .bool false, .bool false, .bool false, .bool false, .bool false, .bool false] 61
  simp only [World.size_alloc] at hM0
  have hmm := hM0.mach 2 rfl
  have HM0 := Lib.hid hM0
  have HLM := Lib.hid (l01Minimal_any m hwf hok)
  clear hM0 hm
  go_enter Try.func42, Try.ntmps42
  go_wp2_with ((with_reducible refine ld_mach ?_ (.tmp 2) ?_ (w.heap.size) (0) ?_ m hmm hwf ?_); exact rfl; exact rfl; exact rfl)
  refine (HLM.out _).mono ?_
  rintro e w1 ⟨rfl, hb1⟩
  have hM1 := ((HM0.out.call hb1).alloc Try.zeroCells28 28).alloc #[.int .i64 0, .int .i64 0, .int .i64 0, .int .i64 0, .int .i64 0, .int .i64 0, .int .i64 0, .int .i64 0, .int .i64 0, .int .i64 0, .int .i64 0, .int .i64 0, .int .i64 0, .int .i64 0, .int .i64 0, .int .i64 0] 78
  simp only [World.size_alloc] at hM1
  clear HM0 hmm HLM hb1
  have ht := (hM1.at 1 rfl).there 0 (minM m).cells.length (by simp only; rw [zero_len, HML.out]; omega)
  have hM2 := hM1.setAll 1 rfl (vs := (minM m).cells) (by rw [zero_len, HML.out])
  simp only [List.set_cons_zero, List.set_cons_succ] at hM2
  have ht2 := (hM2.at 0 rfl).there 0 (nvs 16 (numU m m.s)).length (by rw [HNL.out]; simp)
  have hM3 := hM2.setAll 0 rfl (vs := nvs 16 (numU m m.s)) (by rw [HNL.out]; simp)
  simp only [List.set_cons_zero, List.set_cons_succ] at hM3
  have HM3 := Lib.hid hM3
  clear hM1 hM2 hM3
  go_wp2_with (first | ((with_reducible refine st_row ?_ 28 (.tmp 7) (.tmp 12) ?_ w1.heap.size 0 (minM m).cells ?_ ?_ ht HIM2.out HM1.out ?_); exact rfl; exact rfl; exact rfl; exact rfl) | ((with_reducible refine st_row ?_ 78 (.tmp 8) (.tmp 13) ?_ (w1.heap.size + 1) 0 (nvs 16 (numU m m.s)) ?_ ?_ ht2 HIN.out HN1.out ?_); exact rfl; exact rfl; exact rfl; exact rfl))
  clear ht ht2
  have hMd := HM3.out.drew
  have hMd : Mm w.heap.size w _ [(w1.heap.size + 1, nvs 16 (numU m m.s), 78), (w1.heap.size, (minM m).cells, 28), (w.heap.size + 1 + 1, z16b, 61), (w.heap.size + 1, Try.zeroCells28.toList, 28), (w.heap.size, m.cells, 28)] [] := hMd
  clear HM3
  have HS : Hid (∀ W Z Y, Mm w.heap.size w W [(w1.heap.size + 1, nvs 16 (numU m m.s), 78), (w1.heap.size, (minM m).cells, 28), (w.heap.size + 1 + 1, Z, 61), (w.heap.size + 1, Y, 28), (w.heap.size, m.cells, 28)] [] →
      MAt W w1.heap.size 0 (minM m) ∧ W.cell? ⟨w1.heap.size + 1, q, none⟩ = some (.int .i64 (m.tbl.num q : Int))) := fun W Z Y h => by
    have d1 := (h.at 0 rfl).cell' (nvs_get (numU m m.s) (q := q) (by omega))
    rw [HNQ.out] at d1
    exact ⟨h.mach 1 rfl, d1⟩
  generalize m.tbl.num q = nq at *
  refine region_A (fun W => MAt W w1.heap.size 0 (minM m) ∧ W.cell? ⟨w1.heap.size + 1, q, none⟩ = some (.int .i64 (nq : Int))) [] 9 (fun W => Mm w.heap.size w W [(w1.heap.size + 1, nvs 16 (numU m m.s), 78), (w1.heap.size, (minM m).cells, 28), (w.heap.size + 1 + 1, z16b, 61), (w.heap.size + 1, Try.zeroCells28.toList, 28), (w.heap.size, m.cells, 28)] []) rfl HMX.out hMd (fun W h => HS.out W _ _ h) (fun W hMd hU => ?_)
  (refine AnyS.takeS (i := 0) rfl (by kernel_rfl) (by kernel_rfl) (by kernel_rfl) (by rfl) (by kernel_rfl) (by kernel_rfl) (fun _ _ _ h => h) (by rfl) (fun W hW => run_ld Try.underlying28 rfl HMI.out (.tmp 7) rfl rfl hW.1) hU (fun hU => ?_); (try simp only [Act.put, List.setIfInBounds_toArray, List.set_cons_zero, List.set_cons_succ]))
  (refine AnyS.take (i := 1) rfl (by kernel_rfl) (by kernel_rfl) (by kernel_rfl) (by rfl) (fun _ _ _ h => h) (by rfl) (by intro w; go_simp; with_reducible rfl) hU (fun hU => ?_); (try simp only [Act.put, List.setIfInBounds_toArray, List.set_cons_zero, List.set_cons_succ]); refine AnyS.take (i := 2) rfl (by kernel_rfl) (by kernel_rfl) (by kernel_rfl) (by rfl) (fun _ _ _ h => h) (by rfl) (by intro w; go_simp; with_reducible rfl) hU (fun hU => ?_); (try simp only [Act.put, List.setIfInBounds_toArray, List.set_cons_zero, List.set_cons_succ]))
  (refine AnyS.takeS (i := 3) rfl (by kernel_rfl) (by kernel_rfl) (by kernel_rfl) (by rfl) (by kernel_rfl) (by kernel_rfl) (fun _ _ _ h => h) (by rfl) (by intro W hSw; have h1 := hSw.2; clear hSw; go_simp; with_reducible rfl) hU (fun hU => ?_); (try simp only [Act.put, List.setIfInBounds_toArray, List.set_cons_zero, List.set_cons_succ]))
  (refine AnyS.takeS (i := 4) rfl (by kernel_rfl) (by kernel_rfl) (by kernel_rfl) (by rfl) (by kernel_rfl) (by kernel_rfl) (fun _ _ _ h => h) (by rfl) (fun W hW => run_ld Try.underlying28 rfl HMI.out (.tmp 7) rfl rfl hW.1) hU (fun hU => ?_); (try simp only [Act.put, List.setIfInBounds_toArray, List.set_cons_zero, List.set_cons_succ]))
  have hM3 := hMd
  clear hMd
  (refine AnyS.branch (rs := [5]) (by kernel_rfl) (List.cons_ne_nil _ _) ?_; refine AllS.cons rfl ?_ AllS.nil; intro K hK)
  go_simp
  refine (HTM.out _).mono ?_
  rintro e w4 ⟨rfl, hb4⟩
  have hM4 := hM3.call hb4
  refine hK.out _ _ (.inl (HS.out _ _ _ hM4)) (fun hU => ?_)
  clear hK K hM3 hb4
  (try simp only [Act.put, List.setIfInBounds_toArray, List.set_cons_zero, List.set_cons_succ])
  have ht := (hM4.at 3 rfl).there 0 (minM m).cells.length (by simp only; rw [zero_len, HML.out]; omega)
  have hM5 := hM4.setAll 3 rfl (vs := (minM m).cells) (by rw [zero_len, HML.out])
  simp only [List.set_cons_zero, List.set_cons_succ] at hM5
  (refine AnyS.branch (rs := [6]) (by kernel_rfl) (List.cons_ne_nil _ _) ?_; refine AllS.cons rfl ?_ AllS.nil; intro K hK)
  refine ite_of (by kernel_rfl) ?_
  refine wp_st 28 (.tmp 4) (.tmp 14) rfl (w.heap.size + 1) 0 (minM m).cells rfl rfl ht HIM2.out HM1.out ?_
  refine hK.out _ _ (.inl (HS.out _ _ _ hM5)) (fun hU => ?_)
  clear hK K ht hM4
  (try simp only [Act.put, List.setIfInBounds_toArray, List.set_cons_zero, List.set_cons_succ])
  generalize w4.setCells (w.heap.size + 1) 0 (minM m).cells = W1 at *
  (refine AnyS.take (i := 7) rfl (by kernel_rfl) (by kernel_rfl) (by kernel_rfl) (by rfl) (fun _ _ _ h => h) (by rfl) (by intro w; go_simp; with_reducible rfl) hU (fun hU => ?_); (try simp only [Act.put, List.setIfInBounds_toArray, List.set_cons_zero, List.set_cons_succ]))
  have HTI : Hid ((Try.prog.info? 61).map (·.size) = some (bls (trivB (minM m))).length) := by show _ = _; rw [bls_len]; exact info65
  have HT1 := Lib.hid (bls_one (trivB (minM m)))
  have HTL := Lib.hid (bls_len (trivB (minM m)))
  have ht := (hM5.at 2 rfl).there 0 (bls (trivB (minM m))).length (by rw [HTL.out]; simp [z16b])
  have hM6 := hM5.setAll 2 rfl (vs := bls (trivB (minM m))) (by rw [HTL.out]; simp [z16b])
  simp only [List.set_cons_zero, List.set_cons_succ] at hM6
  (refine AnyS.branch (rs := [8]) (by kernel_rfl) (List.cons_ne_nil _ _) ?_; refine AllS.cons rfl ?_ AllS.nil; intro K hK)
  refine ite_of (by kernel_rfl) ?_
  refine wp_st 61 (.tmp 6) (.tmp 19) rfl (w.heap.size + 1 + 1) 0 (bls (trivB (minM m))) rfl rfl ht HTI.out HT1.out ?_
  refine hK.out _ _ (.inl (HS.out _ _ _ hM6)) (fun hU => ?_)
  clear hK K ht hM5
  (try simp only [Act.put, List.setIfInBounds_toArray, List.set_cons_zero, List.set_cons_succ])
  refine AnyS.done (by kernel_rfl) ?_ _
  clear hU
  generalize W1.setCells (w.heap.size + 1 + 1) 0 (bls (trivB (minM m))) = W2 at *
  have HB1 := Lib.hid (hM6.at 3 rfl)
  have HB2 := Lib.hid (hM6.at 2 rfl)
  have HBL := Lib.hid hM6.below
  clear hM6 HS
  go_wp2_with fail
  refine bodyPost_ret (v := .tuple #[.agg (minM m).cells.toArray, .int .i64 (nq : Int), .agg (bls (trivB (minM m))).toArray]) (results_ctc Try.results42 _ _ (w.heap.size + 1) 28 (minM m).cells.toArray (0, 0) (.struct _) rfl HB1.out Try.underlying28 rfl (HIM2.out.trans (by rw [List.size_toArray]))
    (w.heap.size + 1 + 1) 61 (bls (trivB (minM m))).toArray (0, 0) (.array 16 4) rfl HB2.out Try.underlying61 rfl (HTI.out.trans (by rw [List.size_toArray]))) rfl ⟨rfl, HBL.out⟩
end Go.Proofs.Ythgkkaifdlkciaa

/- l09Kind. -/
namespace Go.Proofs.Ythgkkaifdlkciaa
open Go.RowKit
set_option linter.unusedVariables false
set_option linter.unusedSimpArgs false

/-- the state r makes p exponential -/
noncomputable def knrB (M : Mch) (p r : Nat) : Bool := (decide (r = p) || M.tbl.nb (trivB M) p r) && M.tbl.nb (trivB M) r r && decide (1 < M.tbl.cntR (trivB M) r)
theorem knr_bad {M : Mch} {p r : Nat} (hr : r < M.s) (h : knrB M p r = true) : kndR M p = (2, 0) := by
  have : M.tbl.expR (trivB M) p = true := by
    unfold Tbl.expR
    rw [List.any_eq_true]
    exact ⟨r, List.mem_range.2 hr, h⟩
  unfold kndR
  rw [if_pos this]
theorem knr_good {M : Mch} {p : Nat} (h : ∀ r, r < M.s → knrB M p r = false) : kndR M p = if M.tbl.mosD (trivB M) p = 0 then (0, 0) else (1, (M.tbl.mosD (trivB M) p : Int) - 1) := by
  have : M.tbl.expR (trivB M) p = false := by
    unfold Tbl.expR
    rw [List.any_eq_false]
    intro r hr
    have := h r (List.mem_range.1 hr)
    unfold knrB at this
    rw [this]; simp
  unfold kndR
  rw [if_neg (by rw [this]; simp)]
  rfl

set_option maxRecDepth 100000 in
set_option maxHeartbeats 2000000 in
theorem l09Kind_any (m : Mch) (hwf : m.Wf) (hok : m.Ok) (q : Nat) (hq : q < m.s) (w : World) :
    Calls Try.prog 26 #[.agg m.cells.toArray, .int .i64 (q : Int)] w (Ret2 (.int .i64 (kndI m q).1) (.int .i64 (kndI m q).2) w) := by
  have hm := MAt.boxed w m 28
  have hb0 := boxedBelow w m.cells.toArray 28
  have HRD := Lib.hid (l09Reduced_any m hwf hok q hq)
  have hwM := minM_wf hok hwf
  have hokM := minM_ok hok hwf
  have htv := minM_tv hok hwf
  have hpl : m.tbl.num q < (minM m).s := by rw [minM_s]; exact Tbl.num_lt (t := m.tbl) hq
  have HKE : Hid (kndI m q = kndR (minM m) (m.tbl.num q)) := (knd_eq htv hpl).symm
  have hM0 := (Mm.start w).alloc m.cells.toArray 28
  have HM0 := Lib.hid hM0
  clear hM0
  generalize m.tbl.num q = p at *
  generalize minM m = M at *
  have hs16 := hokM.s_le
  have p1 : (0 : Int) ≤ (p : Int) := by omega
  have p2 : (p : Int) < 16 := by omega
  have HBAD : Hid (∀ r, r < M.s → knrB M p r = true → kndI m q = (2, 0)) := fun r hr h => HKE.out.trans (knr_bad hr h)
  have HGOOD : Hid ((∀ r, r < M.s → knrB M p r = false) → kndI m q = if M.tbl.mosD (trivB M) p = 0 then (0, 0) else (1, (M.tbl.mosD (trivB M) p : Int) - 1)) := fun h => HKE.out.trans (knr_good h)
  have HRE := Lib.hid (l09Reach_any M hwM hokM htv)
  have HIM2 := Lib.hid (mach_infoT hwM)
  have HM1 := Lib.hid (mach_ones M)
  have HML := Lib.hid (Mch.cells_length hwM)
  have HTI : Hid ((Try.prog.info? 61).map (·.size) = some (bls (trivB M)).length) := by show _ = _; rw [bls_len]; exact info65
  have HT1 := Lib.hid (bls_one (trivB M))
  have HTL := Lib.hid (bls_len (trivB M))
  have HMD := Lib.hid (fun f hf => l09Most_any M hwM hokM htv f hf p hpl)
  have HDD := Lib.hid (fun f hf r hr => l09Double_any M hwM hokM f hf r hr)
  have hmd : M.tbl.mosD (trivB M) p ≤ 17 := Nat.le_trans (Tbl.mosF_le _ _ _ _) (by show M.s + 1 ≤ 17; omega)
  go_enter Try.func26, Try.ntmps26
  go_wp2_with ((with_reducible refine ld_mach ?_ (.tmp 2) ?_ (w.heap.size) (0) ?_ m hm hwf ?_); exact rfl; exact rfl; exact rfl)
  refine (HRD.out _).mono ?_
  rintro e w1 ⟨rfl, hb1⟩
  have hM1 := ((HM0.out.call hb1).alloc Try.zeroCells28 28).alloc #[.bool false, .bool false, .bool false, .bool false, .bool false, .bool false, .bool false, .bool false, .bool false, .bool false, .bool false, .bool false, .bool false, .bool false, .bool false, .bool false] 61
  simp only [World.size_alloc] at hM1
  clear HM0 HRD hb1 hb0 hm
  have ht := (hM1.at 1 rfl).there 0 M.cells.length (by simp only; rw [zero_len, HML.out]; omega)
  have hM2 := hM1.setAll 1 rfl (vs := M.cells) (by rw [zero_len, HML.out])
  simp only [List.set_cons_zero, List.set_cons_succ] at hM2
  have ht2 := (hM2.at 0 rfl).there 0 (bls (trivB M)).length (by rw [HTL.out]; simp)
  have hM3 := hM2.setAll 0 rfl (vs := bls (trivB M)) (by rw [HTL.out]; simp)
  simp only [List.set_cons_zero, List.set_cons_succ] at hM3
  have hmM := hM3.mach 1 rfl
  have hr8 := (hM3.at 0 rfl).all
  have HM3 := Lib.hid hM3
  clear hM1 hM2 hM3
  go_wp2_with (first | ((with_reducible refine st_row ?_ 28 (.tmp 6) (.tmp 16) ?_ w1.heap.size 0 M.cells ?_ ?_ ht HIM2.out HM1.out ?_); exact rfl; exact rfl; exact rfl; exact rfl) | ((with_reducible refine st_row ?_ 61 (.tmp 8) (.tmp 18) ?_ (w1.heap.size + 1) 0 (bls (trivB M)) ?_ ?_ ht2 HTI.out HT1.out ?_); exact rfl; exact rfl; exact rfl; exact rfl) |
    ((with_reducible refine ld_mach ?_ (.tmp 6) ?_ w1.heap.size 0 ?_ M hmM hwM ?_); exact rfl; exact rfl; exact rfl) | ((with_reducible refine ld_row ?_ 61 (.tmp 8) ?_ (w1.heap.size + 1) 0 ?_ (bls (trivB M)) (.array 16 4) hr8 Try.underlying61 ?_ HTI.out ?_); exact rfl; exact rfl; exact rfl; exact rfl))
  refine (HRE.out _).mono ?_
  rintro e w2 ⟨f, hf, rfl, hb2⟩
  have hM4 := (HM3.out.call hb2).alloc Try.zeroCells64 64
  clear HM3 HRE hmM hr8 ht ht2 hb2
  have hz : Try.zeroCells64.toList.length = 256 := by rw [zero_b2, b2L_len]
  have ht := (hM4.at 0 rfl).there 0 (b2L f).length (by simp only; rw [hz, b2L_len]; omega)
  have hM5 := hM4.setAll 0 rfl (vs := b2L f) (by rw [hz, b2L_len])
  simp only [List.set_cons_zero, List.set_cons_succ] at hM5
  have HFI : Hid ((Try.prog.info? 64).map (·.size) = some (b2L f).length) := by show _ = _; rw [b2L_len]; kernel_rfl
  have HF1 := Lib.hid (b2L_one f)
  have HM5 := Lib.hid hM5
  have HMQ := Lib.hid (HMD.out f hf)
  have HDQ := Lib.hid (HDD.out f hf)
  have HF := Lib.hid hf
  clear hM4 hM5 hz HMD HDD hf
  go_wp2_with ((with_reducible refine st_row ?_ 64 (.tmp 9) (.tmp 21) ?_ w2.heap.size 0 (b2L f) ?_ ?_ ht HFI.out HF1.out ?_); exact rfl; exact rfl; exact rfl; exact rfl)
  clear ht
  go_loopw [10] (fun rv wr => ∃ r : Nat, r ≤ M.s ∧ rv = .int .i64 (r : Int) ∧ Hid (∀ j, j < r → knrB M p j = false) ∧ Hid (Mm w.heap.size w wr [(w2.heap.size, b2L f, 64), (w1.heap.size + 1, bls (trivB M), 61), (w1.heap.size, M.cells, 28), (w.heap.size, m.cells, 28)] [])) (fun rv _ => M.s - (intOf rv).toNat)
  case atStart => exact ⟨0, Nat.zero_le _, rfl, fun j hj => by omega, HM5.out⟩
  case round =>
    clear HM5
    obtain ⟨r, hr, rfl, HN, HM⟩ := hrel
    have er : IntKind.i64.wrap ((r : Int) + 1) = (r : Int) + 1 := IntWalk.i64_in _ (by omega)
    have cs := (HM.out.mach 2 rfl).s
    rw [hokM.S_eq] at cs
    by_cases hlt : r < M.s
    · have r1 : (0 : Int) ≤ (r : Int) := by omega
      have r2 : (r : Int) < 16 := by omega
      have r3 : (r : Int) < (M.s : Int) := by omega
      have HDB := Lib.hid (HDQ.out r hlt)
      have c1 := (HM.out.at 0 rfl).cell' (b2L_get f (p := p) (r := r) (by omega) (by omega))
      have c2 := (HM.out.at 0 rfl).cell' (b2L_get f (p := r) (r := r) (by omega) (by omega))
      have HKB : Hid (knrB M p r = ((decide (r = p) || f p r) && f r r && decide (1 < M.tbl.cntR (trivB M) r))) := by
        show _ = _; rw [knrB, ← HF.out p r hpl hlt, ← HF.out r r hlt hlt]
      by_cases hrp : r = p
      · have HKB : Hid (knrB M p r = (f r r && decide (1 < M.tbl.cntR (trivB M) r))) := by show _ = _; rw [HKB.out, hrp]; simp
        have j1 : ((r : Int) == (p : Int)) = true := by rw [hrp]; simp
        clear hrp c1
        have c1 : True := trivial
        cases hb2 : f r r with
          | false =>
            rw [hb2] at c2
            have HN2 : Hid (∀ j, j < r + 1 → knrB M p j = false) := fun j hj => by
              by_cases e : j = r
              · rw [e, HKB.out, hb2]; simp
              · exact HN.out j (by omega)
            clear hb2 HKB HDB
            go_wp2_with fail
            go_roundw
            case rel => exact ⟨r + 1, by omega, by go_num, HN2, HM.out⟩
            case measure => simp [intOf] <;> omega
          | true =>
            rw [hb2] at c2
            have hmM := HM.out.mach 2 rfl
            have hr8 := (HM.out.at 1 rfl).all
            have hr9 := (HM.out.at 0 rfl).all
            go_wp2_with (first | ((with_reducible refine ld_mach ?_ (.tmp 6) ?_ w1.heap.size 0 ?_ M hmM hwM ?_); exact rfl; exact rfl; exact rfl) | ((with_reducible refine ld_row ?_ 61 (.tmp 8) ?_ (w1.heap.size + 1) 0 ?_ (bls (trivB M)) (.array 16 4) hr8 Try.underlying61 ?_ HTI.out ?_); exact rfl; exact rfl; exact rfl; exact rfl) | ((with_reducible refine ld_row ?_ 64 (.tmp 9) ?_ w2.heap.size 0 ?_ (b2L f) (.array 16 61) hr9 Try.underlying64 ?_ HFI.out ?_); exact rfl; exact rfl; exact rfl; exact rfl))
            refine (HDB.out _).mono ?_
            rintro e w4 ⟨rfl, hb4⟩
            have hM4 := HM.out.call hb4
            cases hd : decide (1 < M.tbl.cntR (trivB M) r) with
            | true =>
              have HR : Hid (kndI m q = (2, 0)) := HBAD.out r hlt (by rw [HKB.out, hb2, hd]; simp)
              have hbl := hM4.below
              clear hM4 hb4 HM hmM hr8 hr9 HKB HDB hd hb2 HN c1 c2 cs
              go_wp2_with fail
              go_ret2
              rw [HR.out]
              exact ⟨rfl, hbl⟩
            | false =>
              have HN2 : Hid (∀ j, j < r + 1 → knrB M p j = false) := fun j hj => by
                by_cases e : j = r
                · rw [e, HKB.out, hd]; simp
                · exact HN.out j (by omega)
              have HM4 := Lib.hid hM4
              clear hM4 hb4 HM hmM hr8 hr9 HKB HDB hd hb2
              go_wp2_with fail
              go_roundw
              case rel => exact ⟨r + 1, by omega, by go_num, HN2, HM4.out⟩
              case measure => simp [intOf] <;> omega
      · have j1 : ((r : Int) == (p : Int)) = false := by rw [beq_eq_false_iff_ne]; omega
        cases hb1 : f p r with
        | false =>
          rw [hb1] at c1
          have HN2 : Hid (∀ j, j < r + 1 → knrB M p j = false) := fun j hj => by
            by_cases e : j = r
            · rw [e, HKB.out, hb1]; simp [hrp]
            · exact HN.out j (by omega)
          clear hb1 HKB HDB hrp c2
          go_wp2_with fail
          go_roundw
          case rel => exact ⟨r + 1, by omega, by go_num, HN2, HM.out⟩
          case measure => simp [intOf] <;> omega
        | true =>
          rw [hb1] at c1 HKB
          clear hrp hb1
          cases hb2 : f r r with
            | false =>
              rw [hb2] at c2
              have HN2 : Hid (∀ j, j < r + 1 → knrB M p j = false) := fun j hj => by
                by_cases e : j = r
                · rw [e, HKB.out, hb2]; simp
                · exact HN.out j (by omega)
              clear hb2 HKB HDB
              go_wp2_with fail
              go_roundw
              case rel => exact ⟨r + 1, by omega, by go_num, HN2, HM.out⟩
              case measure => simp [intOf] <;> omega
            | true =>
              rw [hb2] at c2
              have hmM := HM.out.mach 2 rfl
              have hr8 := (HM.out.at 1 rfl).all
              have hr9 := (HM.out.at 0 rfl).all
              go_wp2_with (first | ((with_reducible refine ld_mach ?_ (.tmp 6) ?_ w1.heap.size 0 ?_ M hmM hwM ?_); exact rfl; exact rfl; exact rfl) | ((with_reducible refine ld_row ?_ 61 (.tmp 8) ?_ (w1.heap.size + 1) 0 ?_ (bls (trivB M)) (.array 16 4) hr8 Try.underlying61 ?_ HTI.out ?_); exact rfl; exact rfl; exact rfl; exact rfl) | ((with_reducible refine ld_row ?_ 64 (.tmp 9) ?_ w2.heap.size 0 ?_ (b2L f) (.array 16 61) hr9 Try.underlying64 ?_ HFI.out ?_); exact rfl; exact rfl; exact rfl; exact rfl))
              refine (HDB.out _).mono ?_
              rintro e w4 ⟨rfl, hb4⟩
              have hM4 := HM.out.call hb4
              cases hd : decide (1 < M.tbl.cntR (trivB M) r) with
              | true =>
                have HR : Hid (kndI m q = (2, 0)) := HBAD.out r hlt (by rw [HKB.out, hb2, hd]; simp)
                have hbl := hM4.below
                clear hM4 hb4 HM hmM hr8 hr9 HKB HDB hd hb2 HN c1 c2 cs
                go_wp2_with fail
                go_ret2
                rw [HR.out]
                exact ⟨rfl, hbl⟩
              | false =>
                have HN2 : Hid (∀ j, j < r + 1 → knrB M p j = false) := fun j hj => by
                  by_cases e : j = r
                  · rw [e, HKB.out, hd]; simp
                  · exact HN.out j (by omega)
                have HM4 := Lib.hid hM4
                clear hM4 hb4 HM hmM hr8 hr9 HKB HDB hd hb2
                go_wp2_with fail
                go_roundw
                case rel => exact ⟨r + 1, by omega, by go_num, HN2, HM4.out⟩
                case measure => simp [intOf] <;> omega
    · obtain rfl : r = M.s := by omega
      have r3 : ¬ ((M.s : Int) < (M.s : Int)) := by omega
      have HR := Lib.hid (HGOOD.out HN.out)
      have hr9 := (HM.out.at 0 rfl).all
      go_wp2_with ((with_reducible refine ld_row ?_ 64 (.tmp 9) ?_ w2.heap.size 0 ?_ (b2L f) (.array 16 61) hr9 Try.underlying64 ?_ HFI.out ?_); exact rfl; exact rfl; exact rfl; exact rfl)
      refine (HMQ.out _).mono ?_
      rintro e w4 ⟨rfl, hb4⟩
      have HBL := Lib.hid (HM.out.call hb4).below
      clear HM hr9 hb4 HBAD HGOOD cs
      generalize M.tbl.mosD (trivB M) p = d at *
      by_cases hd : d = 0
      · subst hd
        have HR2 : Hid (kndI m q = (0, 0)) := by show _ = _; rw [HR.out, if_pos rfl]
        clear HR
        go_wp2_with fail
        go_ret2
        rw [HR2.out]
        exact ⟨rfl, HBL.out⟩
      · have HR2 : Hid (kndI m q = (1, (d : Int) - 1)) := by show _ = _; rw [HR.out, if_neg hd]
        have j1 : ((d : Int) == 0) = false := by rw [beq_eq_false_iff_ne]; omega
        have j2 : IntKind.i64.wrap ((d : Int) - 1) = (d : Int) - 1 := IntWalk.i64_in _ (by omega)
        clear HR
        go_wp2_with fail
        go_ret2
        rw [HR2.out]
        exact ⟨rfl, HBL.out⟩
end Go.Proofs.Ythgkkaifdlkciaa

/- ActivityCounts of the reference. -/
namespace Go.Proofs.Ythgkkaifdlkciaa
open Go.RowKit
set_option linter.unusedVariables false
set_option linter.unusedSimpArgs false

theorem codeP_nil (m : Mch) (q : Int) : codeP m q ⟨#[]⟩ = if machP m then (if inR q 0 (m.S - 1) then 0 else 2) else 1 := by
  have : wordP m.L ⟨#[]⟩ = true := rfl
  simp [codeP, this]

set_option maxRecDepth 100000 in
set_option maxHeartbeats 1000000 in
theorem l07State_any (m : Mch) (hwf : m.Wf) (q : Int) (w : World) :
    Calls Try.prog 30 #[.agg m.cells.toArray, .int .i64 q] w (Ret (.int .i64 (codeP m q ⟨#[]⟩)) w) := by
  have hm := MAt.boxed w m 28
  have hb0 := boxedBelow w m.cells.toArray 28
  have HC := Lib.hid (codeP_nil m q)
  go_enter Try.func30, Try.ntmps30
  go_wp2_with ((with_reducible refine ld_mach ?_ (.tmp 2) ?_ (w.heap.size) (0) ?_ m hm hwf ?_); exact rfl; exact rfl; exact rfl)
  refine (l01Is_any m hwf _).mono ?_
  rintro e w1 ⟨rfl, hb1⟩
  have hm1 := hm.keep hb1 hwf
  have hbb1 := hb0.trans (hb1.mono hb0.size)
  have hs1 := hm1.s
  by_cases c1 : machP m = true
  · have hok := mach_ok c1
    have hs16 := hok.s16
    have hs1' := hok.s1
    rw [c1]
    by_cases c2 : inR q 0 (m.S - 1) = true
    · have HF := Lib.hid (show codeP m q ⟨#[]⟩ = 0 by rw [HC.out, if_pos c1, if_pos c2])
      clear c1 HC
      go_wp2_with (go_at_call 41; refine (l01In_any _ _ _ _).mono ?_; rintro e w' ⟨rfl, rfl⟩)
      go_ret
      exact ⟨ret_int HF.out.symm, hbb1⟩
    · have HF := Lib.hid (show codeP m q ⟨#[]⟩ = 2 by rw [HC.out, if_pos c1, if_neg c2])
      have c2' : inR q 0 (m.S - 1) = false := by simpa using c2
      clear c1 c2 HC
      go_wp2_with (go_at_call 41; refine (l01In_any _ _ _ _).mono ?_; rintro e w' ⟨rfl, rfl⟩)
      go_ret
      exact ⟨ret_int HF.out.symm, hbb1⟩
  · have HF := Lib.hid (show codeP m q ⟨#[]⟩ = 1 by rw [HC.out, if_neg c1])
    have c1' : machP m = false := by simpa using c1
    rw [c1']
    clear c1 HC
    go_wp2_with fail
    go_ret
    exact ⟨ret_int HF.out.symm, hbb1⟩
end Go.Proofs.Ythgkkaifdlkciaa
