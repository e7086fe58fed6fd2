/- towerPath: the program's breadth first search. -/
import Derived.Test.YtmacnofkpdikiaaTP6
import Derived.Carry
namespace Go.Proofs.Ytmacnofkpdikiaa
open Go.RowKit
set_option linter.unusedVariables false
set_option linter.unusedSimpArgs false
set_option linter.unusedSectionVars false

theorem Mm.over {B : Nat} {w0 w w' : World} {L : List (Nat × List Value × TypeId)} {G : List (Value × TypeId × List Value)} (h : Mm B w0 w L G) {b : Nat} (hg : w.grownBy w' (some b)) (hb : b < B) : Mm B w' w' L G := by
  refine ⟨Below.refl _ _, Nat.le_trans h.size hg.size, fun x hx => ⟨(h.blk x hx).1, ?_⟩, h.dist, fun x hx => ?_, h.sep, h.gdist⟩
  · have h1 := (h.blk x hx)
    exact (hg.block x.1 h1.2.lt (by intro e; injection e with e; omega)).trans h1.2
  · have ho := h.own x hx
    refine ⟨ho.1, ?_⟩
    rcases ho.2 with hn | ⟨g, cap, cur, hv, h1, h2, rest⟩
    · exact .inl hn
    · have hlt := h.ownlt hx (by rw [hv]; rfl : x.1.ownBlock = some g)
      exact .inr ⟨g, cap, cur, hv, h1, (hg.block g hlt (by intro e; injection e with e; omega)).trans h2, rest⟩
/-- the paths found below c -/
def fP (s : ByteArray) (c : Nat) (x : ByteArray) : Option ByteArray := ((gF nbS s c).find? fun e => decide (gAt nbS s e = x)).map gTxt
theorem fP_same {s : ByteArray} {c : Nat} (h : isF nbS s c = false) : fP s (c + 1) = fP s c := by
  funext x; simp only [fP, gF_succ, h, Bool.false_eq_true, if_false, List.append_nil]
theorem fP_miss {s : ByteArray} {c : Nat} (h : isF nbS s c = true) : fP s c (gAt nbS s c) = none := by
  have : (gF nbS s c).find? (fun e => decide (gAt nbS s e = gAt nbS s c)) = none := by
    rw [List.find?_eq_none]
    intro e he
    simp only [decide_eq_true_eq]
    exact isF_iff.1 h e (gF_mem.1 he).1
  rw [fP, this]; rfl
theorem fP_hit {s : ByteArray} {c e : Nat} (he : e ∈ gF nbS s c) : fP s c (gAt nbS s e) = some (gTxt e) := by
  cases hf : (gF nbS s c).find? (fun x => decide (gAt nbS s x = gAt nbS s e)) with
  | none =>
    rw [List.find?_eq_none] at hf
    exact absurd (by simp) (hf e he)
  | some x =>
    have h1 := List.find?_some hf
    have h2 := List.mem_of_find?_eq_some hf
    simp only [decide_eq_true_eq] at h1
    have := isF_inj (gF_mem.1 h2).2 (gF_mem.1 he).2 h1
    subst this
    rw [fP, hf]; rfl
theorem fP_new {s : ByteArray} {c : Nat} (h : isF nbS s c = true) : fP s (c + 1) = fun x => if x = gAt nbS s c then some (gTxt c) else fP s c x := by
  funext x
  by_cases e : x = gAt nbS s c
  · rw [if_pos e, e]
    exact fP_hit (gF_mem.2 ⟨by omega, h⟩)
  · rw [if_neg e]
    simp only [fP, gF_succ, h, if_true, List.find?_append]
    have : ([c].find? fun e => decide (gAt nbS s e = x)) = none := by simp [List.find?_cons, Ne.symm e]
    rw [this, Option.or_none]
theorem fP_one (s : ByteArray) : fP s 1 = fun x => if x = s then some ⟨#[]⟩ else none := by
  rw [fP_new (isF_zero s)]
  funext x
  rw [gAt_zero]
  split
  · rw [gTxt, gStr_zero]; rfl
  · rfl
theorem gTxt_short {e : Nat} (h : gLen e ≤ 1000) : (gTxt e).size ≤ maxLen := by rw [gTxt_size]; simp [maxLen]; omega

theorem ba_inj {a b : ByteArray} (h : a.toList = b.toList) : a = b := by
  rw [ByteArray.toList_eq, ByteArray.toList_eq] at h
  exact ByteArray.ext (Array.toList_inj.1 h)
theorem bcd_slice (t : Nat) (ht : t < 3) (W : World) : (Instr.slice 9 (.string ⟨#[98, 99, 100]⟩) (some (.int .i64 (t : Int))) (some (.int .i64 ((t : Int) + 1))) none).run Try.prog W = .ok (.string (strOfNums [98 + (t : Int)])) W := by
  rcases (by omega : t = 0 ∨ t = 1 ∨ t = 2) with rfl | rfl | rfl <;> kernel_rfl
def prs : List Value := [.int .i64 0, .int .i64 1, .int .i64 0, .int .i64 2, .int .i64 1, .int .i64 2]
set_option maxRecDepth 100000 in
set_option maxHeartbeats 4000000 in
theorem towerPath_any (n : Nat) (hn : n ≤ 5) (s v : ByteArray) (hs : okW n s) (hv : okW n v) (w : World) :
    Calls Try.prog 63 #[.string s, .string v] w (Ret (.string (gTxt (fstE s v))) w) := by
  obtain ⟨i0, hi, hz0, hz1, hz2⟩ := info_parts Try.info9
  have hN : 3 ^ n ≤ 243 := Nat.pow_le_pow_right (by omega) hn
  have hfst := fstE_fst hs hv
  obtain ⟨E, hE⟩ : ∃ E, E = fstE s v := ⟨_, rfl⟩
  rw [← hE] at hfst
  have HRES : Hid (gTxt (fstE s v) = gTxt E) := by show _ = _; rw [hE]
  have HFST := Lib.hid hfst
  have HCOUNT := Lib.hid (gF_count (nb := nbS) (ok := okW n) nbS_ok numW_inj numW_lt hs)
  have HOK := Lib.hid (gAt_ok (nb := nbS) (ok := okW n) nbS_ok hs)
  have hsh := okW_short hs hn
  have hsm : s.size ≤ maxLen := by simpa [Short, maxLen] using hsh
  obtain ⟨w1, hrun1, hm1, hg1⟩ := (MapS.new w).put (by omega) s ⟨#[]⟩ hsm (Nat.zero_le _)
  have hmm := @run_makeMap Try.prog
  rw [← fP_one] at hm1
  have hb1 : Below w.heap.size w w1 := ((Below.refl _ _).alloc (Nat.le_refl _) _).grown hg1 (by simp) (fun k hk => by injection hk with hk; omega)
  have hsz1 : w.heap.size + 1 ≤ w1.heap.size := by have := hm1.lt; omega
  have HM1 := Lib.hid hm1
  clear hE hfst hsh hsm hm1 hg1
  go_enter Try.func63, Try.ntmps63
  go_wp2_with fail
  have hq0 : Mm (w.heap.size + 1) (w1.alloc (.cells #[.string s] 9)) (w1.alloc (.cells #[.string s] 9)) [] [(.slice (some ⟨w1.heap.size, 0, none⟩) 1 1, 9, stv (qSt s 1))] := by
    have h1 := ((Mm.start w1).alloc #[.string s] 9).addOwn (b := w1.heap.size) (cs := [.string s]) (T := 9) (by simp) 1 rfl (by omega)
    have h2 := (h1.since).less hsz1
    have e2 : stv (qSt s 1) = [.string s] := by rw [qSt, gF_one]; simp [stv, gAt_zero]
    rw [e2]
    simpa using h2
  have HQ0 := Lib.hid hq0
  have hm2 : MapS (w1.alloc (.cells #[.string s] 9)) w.heap.size (gF nbS s 1).length (fP s 1) := by
    rw [gF_one]
    exact HM1.out.below ((Below.refl w1.heap.size w1).alloc (Nat.le_refl _) _) HM1.out.lt
  have HM2 := Lib.hid hm2
  have hb2 := hb1.alloc (by omega) (.cells #[.string s] 9)
  clear hq0 hm2 HM1 hrun1 hmm
  go_loopw [6, 7] (fun q i wr => ∃ (j e : Nat), i = .int .i64 j ∧ Hid ((gF nbS s (3 * e + 1))[j]? = some e) ∧ e ≤ E ∧ Below w.heap.size w wr ∧ Hid (MapS wr w.heap.size (gF nbS s (3 * e + 1)).length (fP s (3 * e + 1))) ∧ Mm (w.heap.size + 1) wr wr [] [(q, 9, stv (qSt s (3 * e + 1)))]) (fun _ i _ => 1000 - (intOf i).toNat)
  case atStart => exact ⟨0, 0, rfl, by show _ = _; rw [gF_one]; rfl, Nat.zero_le _, hb2, HM2, HQ0.out⟩
  case round =>
    clear HM2 HQ0 hb2 hb1 hsz1
    obtain ⟨j, e, rfl, HE, heE, hb, HM, hQ⟩ := hrel
    have hcnt := HCOUNT.out (3 * e + 1)
    have hjl := (List.getElem?_eq_some_iff.1 HE.out).1
    obtain ⟨g, cp, e1, -, -, hcl⟩ := own_form (hQ.own _ (List.mem_cons_self ..)) (by simp only [stv_len, qSt_len]; omega)
    simp only [stv_len, qSt_len] at e1
    subst e1
    have f0 := hcl j _ (qSt_get HE.out)
    have hX := HOK.out e
    have HX := Lib.hid hX
    obtain ⟨X, hXe⟩ : ∃ X, X = gAt nbS s e := ⟨_, rfl⟩
    rw [← hXe] at f0 HX
    have HXE := Lib.hid hXe
    have i1 : (0 : Int) ≤ (j : Int) := by omega
    have i2 : (j : Int) < ((gF nbS s (3 * e + 1)).length : Int) := by omega
    have hle := gF_len HE.out
    have hXs : X.size ≤ maxLen := by have := okW_short HX.out hn; simpa [Short, maxLen] using this
    have hlk := HM.out.look X hXs false
    have hhit := fP_hit (List.mem_of_getElem? HE.out)
    rw [← hXe] at hhit
    rw [hhit] at hlk
    simp only [Bool.false_eq_true, if_false, Option.getD_some] at hlk
    have HLK := Lib.hid hlk
    clear hXe hX hcl hhit hlk
    by_cases hXv : X = v
    · have hEe : e = E := isF_inj (gF_mem.1 (List.mem_of_getElem? HE.out)).2 HFST.out.2 (by rw [HFST.out.1, ← HXE.out, hXv])
      have HEe := Lib.hid hEe
      clear hEe
      subst hXv
      have hlk := HLK.out
      go_wp2_with fail
      go_ret
      exact ⟨ret_str (by rw [HRES.out, HEe.out]), hb⟩
    · have hne : (X.toList == v.toList) = false := by
        simp only [beq_eq_false_iff_ne, ne_eq]
        intro h
        exact hXv (ba_inj h)
      go_wp2_with fail
      have hM0 := Lib.hid ((hQ.alloc #[.int .i64 0, .int .i64 1, .int .i64 0, .int .i64 2, .int .i64 1, .int .i64 2] 119).since)
      have hm0 := Lib.hid (HM.out.below ((Below.refl wr.heap.size wr).alloc (Nat.le_refl _) (.cells #[.int .i64 0, .int .i64 1, .int .i64 0, .int .i64 2, .int .i64 1, .int .i64 2] 119)) HM.out.lt)
      have hb0 := hb.alloc hb.size (.cells #[.int .i64 0, .int .i64 1, .int .i64 0, .int .i64 2, .int .i64 1, .int .i64 2] 119)
      have hElt : e < E := by
        rcases Nat.lt_or_ge e E with hh | hh
        · exact hh
        · exfalso
          have : e = E := by omega
          exact hXv (by rw [HXE.out, this, HFST.out.1])
      have HELT := Lib.hid hElt
      obtain ⟨pb, hpb⟩ : ∃ pb, pb = wr.heap.size := ⟨_, rfl⟩
      rw [← hpb] at hM0 ⊢
      clear hpb HLK hQ HM hb f0 hne hXv hElt
      go_loopw [6, 36] (fun q i wi => ∃ t : Nat, t ≤ 3 ∧ i = .int .i64 t ∧ Below w.heap.size w wi ∧ Hid (MapS wi w.heap.size (gF nbS s (3 * e + 1 + t)).length (fP s (3 * e + 1 + t))) ∧ Hid (Mm (w.heap.size + 1) wi wi [(pb, prs, 119)] [(q, 9, stv (qSt s (3 * e + 1 + t)))]) ∧ Hid ((gF nbS s (3 * e + 1 + t))[j]? = some e)) (fun _ i _ => 3 - (intOf i).toNat)
      case atStart => exact ⟨0, by omega, rfl, hb0, hm0, hM0, HE⟩
      case round =>
        clear hm0 hM0 hb0 HE
        obtain ⟨t, ht, rfl, hb, HM, HQ, HE⟩ := hrel
        have hjl := (List.getElem?_eq_some_iff.1 HE.out).1
        have hcnt2 := HCOUNT.out (3 * e + 1 + t)
        by_cases htl : t < 3
        · have hcode := gAt_code (nb := nbS) s e htl
          rw [show 3 * e + t + 1 = 3 * e + 1 + t by omega, ← HXE.out] at hcode
          have hYo := HOK.out (3 * e + 1 + t)
          have hlen : gLen (3 * e + 1 + t) = gLen e + 1 := by
            have := gLen_code e htl
            rwa [show 3 * e + t + 1 = 3 * e + 1 + t by omega] at this
          have htx : gTxt (3 * e + 1 + t) = gTxt e ++ strOfNums [98 + (t : Int)] := by
            have := gTxt_code e htl
            rwa [show 3 * e + t + 1 = 3 * e + 1 + t by omega] at this
          have hlej := gF_len HE.out
          obtain ⟨C, hC⟩ : ∃ C, C = 3 * e + 1 + t := ⟨_, rfl⟩
          rw [← hC] at hcode hYo hlen htx HM HQ HE hjl hcnt2
          have HC := Lib.hid hC
          obtain ⟨Y, hY⟩ : ∃ Y, Y = gAt nbS s C := ⟨_, rfl⟩
          rw [← hY] at hcode hYo
          have HYE := Lib.hid hY
          have hYs : Y.size ≤ maxLen := by have := okW_short hYo hn; simpa [Short, maxLen] using this
          have hB := HQ.out.at 0 rfl
          have p0 : wr.cell? ⟨pb, t * 2, none⟩ = some (.int .i64 (px t - 48)) := hB.cell' (by rcases (by omega : t = 0 ∨ t = 1 ∨ t = 2) with rfl | rfl | rfl <;> rfl)
          have p1 : wr.cell? ⟨pb, t * 2 + 1, none⟩ = some (.int .i64 (py t - 48)) := hB.cell' (by rcases (by omega : t = 0 ∨ t = 1 ∨ t = 2) with rfl | rfl | rfl <;> rfl)
          have HMOVE : Hid (∀ w, Calls Try.prog 57 #[.string X, .int .i64 (px t - 48), .int .i64 (py t - 48)] w (Ret (.string Y) w)) := fun w => by
            have h := move_any X (okW_short HX.out hn) (px t - 48) (py t - 48) (by rcases (by omega : t = 0 ∨ t = 1 ∨ t = 2) with rfl | rfl | rfl <;> decide) (by rcases (by omega : t = 0 ∨ t = 1 ∨ t = 2) with rfl | rfl | rfl <;> decide) (by rcases (by omega : t = 0 ∨ t = 1 ∨ t = 2) with rfl | rfl | rfl <;> decide) w
            rw [show 48 + (px t - 48) = px t by omega, show 48 + (py t - 48) = py t by omega] at h
            rw [hcode]; exact h
          obtain ⟨P0, hP0⟩ : ∃ P, P = px t - 48 := ⟨_, rfl⟩
          obtain ⟨P1, hP1⟩ : ∃ P, P = py t - 48 := ⟨_, rfl⟩
          rw [← hP0] at p0 HMOVE
          rw [← hP1] at p1 HMOVE
          have j0 : (0 : Int) ≤ (t : Int) := by omega
          have j1 : (t : Int) < 3 := by omega
          have HTX := Lib.hid htx
          have HLEN := Lib.hid hlen
          clear hP0 hP1 hB hC hY hcode hYo htx hlen
          go_wp2_with fail
          refine (HMOVE.out _).mono ?_
          rintro e1 w2 ⟨rfl, hb2⟩
          have HQ2 := Lib.hid (((HQ.out.allocO _).call hb2).since)
          have HM2 := Lib.hid ((HM.out.below ((Below.refl wr.heap.size wr).alloc (Nat.le_refl _) _) HM.out.lt).below hb2 (by have := HM.out.lt; simp; omega))
          have hbb := (hb.alloc hb.size _).trans (hb2.mono (by have := hb.size; simp; omega))
          have hlk := HM2.out.look Y hYs true
          clear p0 p1 HQ HM hb
          cases hF : isF nbS s C
          · obtain ⟨e', he', hee⟩ := (gF_seen s C).2 hF
            have hh := fP_hit he'
            rw [hee, ← HYE.out] at hh
            rw [hh] at hlk
            simp only [if_true, Option.isSome_some] at hlk
            have HS1 := Lib.hid (fP_same hF)
            have HS2 : Hid (qSt s (C + 1) = qSt s C) := by show _ = _; rw [qSt_succ, hF]; simp
            have HS3 : Hid (gF nbS s (C + 1) = gF nbS s C) := by show _ = _; rw [gF_succ, hF]; simp
            clear hh he' hee hF
            go_wp2_with fail
            go_roundw
            case rel =>
              have e2 : 3 * e + 1 + (t + 1) = C + 1 := by rw [HC.out]; omega
              exact ⟨t + 1, by omega, by go_num, hbb, by rw [e2, HS1.out, HS3.out]; exact HM2, by rw [e2, HS2.out]; exact HQ2, by rw [e2]; exact gF_keep HE.out⟩
            case measure => simp [intOf] <;> omega
          · have hh := fP_miss hF
            rw [← HYE.out] at hh
            rw [hh] at hlk
            simp only [if_true, Option.isSome_none] at hlk
            have hlk2 := HM2.out.look X hXs false
            have hhit := fP_hit (List.mem_of_getElem? HE.out)
            rw [← HXE.out] at hhit
            rw [hhit] at hlk2
            simp only [Bool.false_eq_true, if_false, Option.getD_some] at hlk2
            have HLOOK : Hid (∀ W, MapS W w.heap.size (gF nbS s C).length (fP s C) → (Instr.lookup 118 (.map (some w.heap.size)) (.string X) false).run Try.prog W = .ok (.string (gTxt e)) W) := fun W hW => by
              have := hW.look X hXs false
              rw [hhit] at this
              simpa using this
            clear hh hhit hlk2
            have hmx : Try.prog.follows .mixedOrders = true := by kernel_rfl
            have HMX := Lib.hid hmx
            clear hmx
            go_wp2_with fail
            have q1 : IntKind.i64.wrap ((t : Int) + 1) = (t : Int) + 1 := IntWalk.i64_in _ (by omega)
            refine region_S (fun W => MapS W w.heap.size (gF nbS s C).length (fP s C)) [10] 11 rfl HMX.out HM2.out (fun hU => ?_)
            obtain ⟨W, hW⟩ : ∃ W, W = w2.drew := ⟨_, rfl⟩
            rw [← hW] at hU ⊢
            have HMW : Hid (MapS W w.heap.size (gF nbS s C).length (fP s C)) := by show MapS _ _ _ _; rw [hW]; exact HM2.out
            have hqw := HQ2.out.drew.since
            rw [← hW] at hqw
            have HQW := Lib.hid hqw
            clear hqw
            have hbW : Below w.heap.size w W := by rw [hW]; exact hbb.drew
            clear hW
            (refine AnyS.take (i := 0) rfl (by kernel_rfl) (by kernel_rfl) (by kernel_rfl) (by rfl) (fun _ _ _ h => h) (by rfl) (by intro w; go_simp; with_reducible rfl) hU (fun hU => ?_); (try simp only [Act.put, List.setIfInBounds_toArray, List.set_cons_zero, List.set_cons_succ]); refine AnyS.take (i := 1) rfl (by kernel_rfl) (by kernel_rfl) (by kernel_rfl) (by rfl) (fun _ _ _ h => h) (by rfl) (by intro w; go_simp; with_reducible rfl) hU (fun hU => ?_); (try simp only [Act.put, List.setIfInBounds_toArray, List.set_cons_zero, List.set_cons_succ]); refine AnyS.take (i := 2) rfl (by kernel_rfl) (by kernel_rfl) (by kernel_rfl) (by rfl) (fun _ _ _ h => h) (by rfl) (by intro w; go_simp; with_reducible rfl) hU (fun hU => ?_); (try simp only [Act.put, List.setIfInBounds_toArray, List.set_cons_zero, List.set_cons_succ]); refine AnyS.take (i := 3) rfl (by kernel_rfl) (by kernel_rfl) (by kernel_rfl) (by rfl) (fun _ _ _ h => h) (by rfl) (by intro w; go_simp; with_reducible rfl) hU (fun hU => ?_); (try simp only [Act.put, List.setIfInBounds_toArray, List.set_cons_zero, List.set_cons_succ]))
            (refine AnyS.takeS (i := 4) rfl (by kernel_rfl) (by kernel_rfl) (by kernel_rfl) (by rfl) (by kernel_rfl) (by kernel_rfl) (fun _ _ _ h => h) (by rfl) (by intro W hSw; have h1 := HLOOK.out W hSw; clear hSw; go_simp; with_reducible rfl) hU (fun hU => ?_); (try simp only [Act.put, List.setIfInBounds_toArray, List.set_cons_zero, List.set_cons_succ]))
            (refine AnyS.take (i := 5) rfl (by kernel_rfl) (by kernel_rfl) (by kernel_rfl) (by rfl) (fun _ _ _ h => h) (by rfl) (by intro w; go_simp; with_reducible rfl) hU (fun hU => ?_); (try simp only [Act.put, List.setIfInBounds_toArray, List.set_cons_zero, List.set_cons_succ]); refine AnyS.take (i := 6) rfl (by kernel_rfl) (by kernel_rfl) (by kernel_rfl) (by rfl) (fun _ _ _ h => h) (by rfl) (by intro w; go_simp; with_reducible rfl) hU (fun hU => ?_); (try simp only [Act.put, List.setIfInBounds_toArray, List.set_cons_zero, List.set_cons_succ]); refine AnyS.take (i := 7) rfl (by kernel_rfl) (by kernel_rfl) (by kernel_rfl) (by rfl) (fun _ _ _ h => h) (by rfl) (by intro w; go_simp; with_reducible rfl) hU (fun hU => ?_); (try simp only [Act.put, List.setIfInBounds_toArray, List.set_cons_zero, List.set_cons_succ]))
            have hbcd := bcd_slice t htl
            (refine AnyS.takeS (i := 8) rfl (by kernel_rfl) (by kernel_rfl) (by kernel_rfl) (by rfl) (by kernel_rfl) (by kernel_rfl) (fun _ _ _ h => h) (by rfl) (by intro W hSw; have h1 := hbcd W; clear hSw; go_simp; with_reducible rfl) hU (fun hU => ?_); (try simp only [Act.put, List.setIfInBounds_toArray, List.set_cons_zero, List.set_cons_succ]))
            have q2 : ¬ 9223372036854775807 < (gTxt e).size + (strOfNums [98 + (t : Int)]).size := by rw [gTxt_size, strOfNums_size]; simp; omega
            (refine AnyS.take (i := 9) rfl (by kernel_rfl) (by kernel_rfl) (by kernel_rfl) (by rfl) (fun _ _ _ h => h) (by rfl) (by intro w; go_simp; with_reducible rfl) hU (fun hU => ?_); (try simp only [Act.put, List.setIfInBounds_toArray, List.set_cons_zero, List.set_cons_succ]))
            obtain ⟨w3, hrun3, hm3, hg3⟩ := HMW.out.put (by omega) Y (gTxt e ++ strOfNums [98 + (t : Int)]) hYs (by rw [← HTX.out]; exact gTxt_short (by rw [HLEN.out]; omega))
            have HM3 : Hid (MapS w3 w.heap.size (gF nbS s (C + 1)).length (fP s (C + 1))) := by
              have e3 : (gF nbS s (C + 1)).length = (gF nbS s C).length + 1 := by rw [gF_succ, hF]; simp
              show MapS _ _ _ _
              rw [e3, fP_new hF, HTX.out, ← HYE.out]
              exact hm3
            have HQ3 := Lib.hid (HQW.out.over hg3 (by omega))
            have hb3 := hbW.grown hg3 hbW.size (fun k hk => by injection hk with hk; omega)
            have HS2 : Hid (qSt s (C + 1) = qSt s C ++ [Y]) := by show _ = _; rw [qSt_succ, hF, HYE.out]; simp
            have HGK := Lib.hid (gF_keep HE.out)
            clear hm3 hg3 hbcd q1 q2 hF HQW HMW hbW HQ2 HM2 hbb
            refine AnyS.branch (rs := [10]) (by kernel_rfl) (by simp) (AllS.cons rfl (fun K hK => ?_) AllS.nil)
            go_simp
            refine hK.out _ _ (.inr ⟨10, by simp, by rfl⟩) (fun hU => ?_)
            clear hK K hrun3
            refine AnyS.done (by kernel_rfl) ?_ _
            have hq3 := HQ3.out
            go_wp2_with (at_builtin; refine Mm.append rfl (.tmp 65) (.tmp 67) 25 rfl hq3 0 rfl Try.underlying25 hi hz0 hz1 hz2 rfl rfl rfl rfl (by rw [stv_len, qSt_len]; omega) (by omega) ?_)
            intro g' cap' w4 hM4
            have HM4 := Lib.hid (HM3.out.below hM4.below (by omega))
            have hb4 := hb3.trans (hM4.below.mono (by omega))
            have HQ4 : Hid (Mm (w.heap.size + 1) w4 w4 [(pb, prs, 119)] [(.slice (some ⟨g', 0, none⟩) ((stv (qSt s C)).length + 1) cap', 9, stv (qSt s (C + 1)))]) := by
              rw [HS2.out, ← stv_snoc]; exact hM4.since
            clear hM4 hq3
            go_wp2_with fail
            go_roundw
            case rel =>
              have e2 : 3 * e + 1 + (t + 1) = C + 1 := by rw [HC.out]; omega
              exact ⟨t + 1, by omega, by go_num, hb4, by rw [e2]; exact HM4, by rw [e2]; exact HQ4, by rw [e2]; exact HGK⟩
            case measure => simp [intOf] <;> omega
        · have ht' : t = 3 := by omega
          subst ht'
          have h4 : 3 * e + 1 + 3 = 3 * e + 4 := by omega
          rw [h4] at HM HQ HE hjl hcnt2
          have hmE : E ∈ gF nbS s (3 * e + 4) ∨ 3 * e + 4 ≤ E := by
            rcases Nat.lt_or_ge E (3 * e + 4) with hh | hh
            · exact .inl (gF_mem.2 ⟨hh, HFST.out.2⟩)
            · exact .inr hh
          have hl : j + 1 < (gF nbS s (3 * e + 4)).length := by
            rcases Nat.lt_or_ge (j + 1) (gF nbS s (3 * e + 4)).length with hh | hh
            · exact hh
            · exfalso
              have h5 := gF_last HE.out hh E HFST.out.2
              rcases hmE with h6 | h6
              · obtain ⟨j', hj'⟩ := List.mem_iff_getElem?.1 h6
                have := gF_idx HE.out hj' HELT.out
                have := (List.getElem?_eq_some_iff.1 hj').1
                omega
              · omega
          obtain ⟨e', he'⟩ : ∃ e', (gF nbS s (3 * e + 4))[j + 1]? = some e' := ⟨_, List.getElem?_eq_getElem hl⟩
          have hgf := gF_next HE.out he'
          have hle' : e' ≤ E := by
            rcases Nat.lt_or_ge E e' with hh | hh
            · exfalso
              have h7 := (gF_mem.1 (List.mem_of_getElem? he')).1
              rcases hmE with h6 | h6
              · obtain ⟨j', hj'⟩ := List.mem_iff_getElem?.1 h6
                have := gF_idx HE.out hj' HELT.out
                have := gF_idx hj' he' hh
                omega
              · omega
            · exact hh
          have HR : Hid (∃ e', (gF nbS s (3 * e' + 1))[j + 1]? = some e' ∧ e' ≤ E ∧ gF nbS s (3 * e' + 1) = gF nbS s (3 * e + 4)) := ⟨e', by rw [hgf]; exact he', hle', hgf⟩
          clear hmE hl he' hgf hle'
          go_wp2_with fail
          go_roundw
          case rel =>
            obtain ⟨e', r1, r2, r3⟩ := HR.out
            refine ⟨j + 1, e', by go_num, r1, r2, hb, ?_, ?_⟩
            · rw [show fP s (3 * e' + 1) = fP s (3 * e + 4) by funext x; simp only [fP, r3], r3]; exact HM
            · rw [show qSt s (3 * e' + 1) = qSt s (3 * e + 4) by rw [qSt, r3]; rfl]
              exact HQ.out.sub (List.nil_sublist _)
          case measure => simp [intOf] <;> omega
end Go.Proofs.Ytmacnofkpdikiaa
