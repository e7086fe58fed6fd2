/- The reference's codes of machines, states and words; what a state makes of a word. -/
import Derived.Test.YtmacnofkpdikiaaE
import Derived.Test.YtmacnofkpdikiaaN
import Derived.Test.YtmacnofkpdikiaaI
namespace Go.Proofs.Ytmacnofkpdikiaa
open Go.RowKit
set_option linter.unusedVariables false
set_option linter.unusedSimpArgs false

def codeP (m : Mch) (q : Int) (s : ByteArray) : Int := if machP m && wordP m.L s then (if inR q 0 (m.S - 1) then 0 else 2) else 1

theorem Ret.trans {v : Value} {w w1 w2 : World} {e : Ending} (h : Ret v w1 e w2) (hb : Below w.heap.size w w1) : Ret v w e w2 := ⟨h.1, hb.trans (h.2.mono hb.size)⟩

theorem boxedBelow (w : World) (c : Array Value) (T : TypeId) : Below w.heap.size w (w.alloc (.cells c T)) := (Below.refl _ _).alloc (Nat.le_refl _) _
theorem MAt.keep {w w' : World} {b o : Nat} {m : Mch} (h : MAt w b o m) (hb : Below w.heap.size w w') (hw : m.Wf) : MAt w' b o m := h.below hb (World.block_lt_of_cell? w ⟨b, o, none⟩ h.l)

set_option maxHeartbeats 1000000 in
theorem l01Word_any (m : Mch) (hwf : m.Wf) (s : ByteArray) (hs : Short s) (w : World) :
    Calls Try.prog 106 #[.agg m.cells.toArray, .string s] w (Ret (.bool (wordP m.L s)) w) := by
  have hm := MAt.boxed w m 44
  have hl : (w.alloc (.cells m.cells.toArray 44)).cell? ⟨w.heap.size, 0, none⟩ = some (.int .i64 m.L) := hm.l
  have hl' : m.cells[0]? = some (.int .i64 m.L) := rfl
  have hb0 := boxedBelow w m.cells.toArray 44
  have HS := Lib.hid hs
  clear hs
  go_enter Try.func106, Try.ntmps106
  by_cases c : s.size ≤ 40
  · go_wp2_with (go_at_call 96; refine (l01Letters_any _ _ _ HS.out).mono ?_; rintro e w' ⟨rfl, rfl⟩)
    go_ret
    exact ⟨ret_bool (by simp [wordP, c]), hb0⟩
  · go_wp2_with (go_at_call 96; refine (l01Letters_any _ _ _ HS.out).mono ?_; rintro e w' ⟨rfl, rfl⟩)
    go_ret
    exact ⟨ret_bool (by simp [wordP, c]), hb0⟩

set_option maxRecDepth 100000 in
set_option maxHeartbeats 1000000 in
theorem l01Code_any (m : Mch) (hwf : m.Wf) (q : Int) (s : ByteArray) (hs : Short s) (w : World) :
    Calls Try.prog 71 #[.agg m.cells.toArray, .int .i64 q, .string s] w (Ret (.int .i64 (codeP m q s)) w) := by
  have hm := MAt.boxed w m 44
  have hb0 := boxedBelow w m.cells.toArray 44
  have HC : Hid (codeP m q s = if machP m && wordP m.L s then (if inR q 0 (m.S - 1) then 0 else 2) else 1) := rfl
  go_enter Try.func71, Try.ntmps71
  by_cases c1 : machP m = true
  · have hok := mach_ok c1
    have hs1 := hok.s1
    have hs2 := hok.s16
    by_cases c2 : wordP m.L s = true
    · by_cases c3 : inR q 0 (m.S - 1) = true
      · have HF := Lib.hid (show codeP m q s = 0 by rw [HC.out]; simp [c1, c2, c3])
        go_wp2_with ((with_reducible refine ld_mach ?_ (.tmp 3) ?_ (w.heap.size) (0) ?_ m hm hwf ?_); exact rfl; exact rfl; exact rfl)
        refine (l01Is_any m hwf _).mono ?_
        rintro e w1 ⟨rfl, hb1⟩
        have hm1 := hm.keep hb1 hwf
        have hbb := hb0.trans (hb1.mono hb0.size)
        rw [c1]
        go_wp2_with ((with_reducible refine ld_mach ?_ (.tmp 3) ?_ (w.heap.size) (0) ?_ m hm1 hwf ?_); exact rfl; exact rfl; exact rfl)
        refine (l01Word_any m hwf s hs _).mono ?_
        rintro e w2 ⟨rfl, hb2⟩
        have hm2 := hm1.keep hb2 hwf
        have hbb2 := hbb.trans (hb2.mono hbb.size)
        have hs3 := hm2.s
        rw [c2]
        go_wp2_with (go_at_call 53; refine (l01In_any _ _ _ _).mono ?_; rintro e w' ⟨rfl, rfl⟩)
        go_ret
        exact ⟨ret_int HF.out.symm, hbb2⟩
      · have HF := Lib.hid (show codeP m q s = 2 by rw [HC.out]; simp [c1, c2, c3])
        have c3' : inR q 0 (m.S - 1) = false := by simpa using c3
        clear c3
        go_wp2_with ((with_reducible refine ld_mach ?_ (.tmp 3) ?_ (w.heap.size) (0) ?_ m hm hwf ?_); exact rfl; exact rfl; exact rfl)
        refine (l01Is_any m hwf _).mono ?_
        rintro e w1 ⟨rfl, hb1⟩
        have hm1 := hm.keep hb1 hwf
        have hbb := hb0.trans (hb1.mono hb0.size)
        rw [c1]
        go_wp2_with ((with_reducible refine ld_mach ?_ (.tmp 3) ?_ (w.heap.size) (0) ?_ m hm1 hwf ?_); exact rfl; exact rfl; exact rfl)
        refine (l01Word_any m hwf s hs _).mono ?_
        rintro e w2 ⟨rfl, hb2⟩
        have hm2 := hm1.keep hb2 hwf
        have hbb2 := hbb.trans (hb2.mono hbb.size)
        have hs3 := hm2.s
        rw [c2]
        go_wp2_with (go_at_call 53; refine (l01In_any _ _ _ _).mono ?_; rintro e w' ⟨rfl, rfl⟩)
        go_ret
        exact ⟨ret_int HF.out.symm, hbb2⟩
    · have HF := Lib.hid (show codeP m q s = 1 by rw [HC.out]; simp [c1, c2])
      have c2' : wordP m.L s = false := by simpa using c2
      clear c2
      go_wp2_with ((with_reducible refine ld_mach ?_ (.tmp 3) ?_ (w.heap.size) (0) ?_ m hm hwf ?_); exact rfl; exact rfl; exact rfl)
      refine (l01Is_any m hwf _).mono ?_
      rintro e w1 ⟨rfl, hb1⟩
      have hm1 := hm.keep hb1 hwf
      have hbb := hb0.trans (hb1.mono hb0.size)
      rw [c1]
      go_wp2_with ((with_reducible refine ld_mach ?_ (.tmp 3) ?_ (w.heap.size) (0) ?_ m hm1 hwf ?_); exact rfl; exact rfl; exact rfl)
      refine (l01Word_any m hwf s hs _).mono ?_
      rintro e w2 ⟨rfl, hb2⟩
      rw [c2']
      go_wp2
      go_ret
      exact ⟨ret_int HF.out.symm, hbb.trans (hb2.mono hbb.size)⟩
  · have HF := Lib.hid (show codeP m q s = 1 by rw [HC.out]; simp [c1])
    have c1' : machP m = false := by simpa using c1
    clear c1
    go_wp2_with ((with_reducible refine ld_mach ?_ (.tmp 3) ?_ (w.heap.size) (0) ?_ m hm hwf ?_); exact rfl; exact rfl; exact rfl)
    refine (l01Is_any m hwf _).mono ?_
    rintro e w1 ⟨rfl, hb1⟩
    rw [c1']
    go_wp2
    go_ret
    exact ⟨ret_int HF.out.symm, hb0.trans (hb1.mono hb0.size)⟩

theorem Try.info5 : (Try.prog.info? 5).map (fun i => (i.zero, i.size, i.bytes)) = some (some (.int .u8 0), 1, 1) := by kernel_rfl

/-- the text out of an owned row of bytes -/
theorem own_str {w : World} {base : Nat} {v : Value} {ns : List Int} (h : w.ownsRow base 5 1 v ns.length (u8s ns)) :
    (convert 82 9 v).run Try.prog w = .ok (.string (strOfNums ns)) w := by
  rcases h.2 with ⟨rfl, h0⟩ | ⟨g, cap, cur, rfl, _, hg, hn, _, _, ht⟩
  · have : ns = [] := List.length_eq_zero_iff.1 h0
    subst this
    exact run_convert_bytes_nil w 82 5 Try.underlying82 Try.underlying5 0 0 9 Try.underlying9
  · refine run_convert_bytes_arg w 82 5 Try.underlying82 Try.underlying5 g 0 ns.length cap ns rfl (fun i hi => ?_) 9 Try.underlying9
    have := h.cells (g := g) rfl i (.int .u8 (ns[i]?.getD 0)) (u8s_get hi)
    rw [Addr.add_mid] at this
    rw [this]
    simp [List.getD]

/-- behind an append to an owned row: what lies below its base is as it was -/
theorem grown_below {B : Nat} {w wr w1 : World} {base E n : Nat} {v : Value} {xs : List Value} {o : Obj} (hb : Below B w wr) (hown : wr.ownsRow base E 1 v n xs) (hB : B ≤ base) (hsz : B ≤ wr.heap.size) (hg : (wr.alloc o).grownBy w1 v.ownBlock) :
    Below B w w1 ∧ wr.heap.size < w1.heap.size ∧ ∀ b, b < base → b < wr.heap.size → w1.heap[b]? = wr.heap[b]? := by
  have hb' := hb.alloc hsz o
  have hlt := fun k hk => (hown.alloc o).lt k hk
  refine ⟨hb'.grown hg (by simp; omega) (fun k hk => by have := hlt k hk; omega), ?_, fun b h1 h2 => ?_⟩
  · have := hg.size; simp at this; omega
  · rw [hg.block b (by simp; omega) (fun e => by have := hlt b e.symm; omega)]
    exact Below.heap_alloc _ _ _ h2
theorem MAt.same {w w' : World} {b o : Nat} {m : Mch} (h : MAt w b o m) (e : w'.heap[b]? = w.heap[b]?) : MAt w' b o m := fun j v hj => (World.cell?_of_block (w := w) (a := ⟨b, o + j, none⟩) e).trans (h j v hj)

def outsP (m : Mch) (q : Nat) (s : ByteArray) (k : Nat) : List Int := (runL m q ((lts s).take k)).1.map fun x : Nat => ((48 + x : Nat) : Int)
def secP (m : Mch) (q : Nat) (s : ByteArray) (k : Nat) : Nat := (runL m q ((lts s).take k)).2
theorem outsP_succ {m : Mch} {q : Nat} {s : ByteArray} {k : Nat} (hk : k < s.size) : outsP m q s (k + 1) = outsP m q s k ++ [((48 + m.on (secP m q s k) ((s[k]).toNat - 48) : Nat) : Int)] := by
  simp only [outsP, secP, lts_take_succ hk, runL_snoc, List.map_append, List.map_cons, List.map_nil]
theorem secP_succ {m : Mch} {q : Nat} {s : ByteArray} {k : Nat} (hk : k < s.size) : secP m q s (k + 1) = m.nn (secP m q s k) ((s[k]).toNat - 48) := by
  simp only [secP, lts_take_succ hk, runL_snoc]
theorem outsP_length {m : Mch} {q : Nat} {s : ByteArray} {k : Nat} (hk : k ≤ s.size) : (outsP m q s k).length = k := by
  simp [outsP, runL_length, lts_length]; omega
theorem secP_lt {m : Mch} (hok : m.Ok) (hwf : m.Wf) {q : Nat} (hq : q < m.s) {s : ByteArray} (hs : letsP m.L s = true) (k : Nat) : secP m q s k < m.s :=
  runL_state hok hwf _ q hq fun x hx => lts_lt hok hs x (List.mem_of_mem_take hx)
theorem outsP_all {m : Mch} {q : Nat} {s : ByteArray} : strOfNums (outsP m q s s.size) = txt (runL m q (lts s)).1 := by
  rw [outsP, txt, List.take_of_length_le (by rw [lts_length]; exact Nat.le_refl _)]
theorem secP_all {m : Mch} {q : Nat} {s : ByteArray} : secP m q s s.size = (runL m q (lts s)).2 := by
  rw [secP, List.take_of_length_le (by rw [lts_length]; exact Nat.le_refl _)]

set_option maxRecDepth 100000 in
set_option maxHeartbeats 2000000 in
theorem l01Act_any (m : Mch) (hwf : m.Wf) (hok : m.Ok) (q : Nat) (hq : q < m.s) (s : ByteArray) (hs : letsP m.L s = true) (h40 : s.size ≤ 40) (w : World) :
    Calls Try.prog 72 #[.agg m.cells.toArray, .int .i64 q, .string s] w fun e w' => e = .returned (.tuple #[.string (txt (runL m q (lts s)).1), .int .i64 (runL m q (lts s)).2]) ∧ Below w.heap.size w w' := by
  have hm := MAt.boxed w m 44
  have hb0 := boxedBelow w m.cells.toArray 44
  obtain ⟨i0, hi, hz0, hz1, hz2⟩ := info_parts Try.info5
  have HS := Lib.hid hs
  have HQ := Lib.hid hq
  clear hs hq
  go_enter Try.func72, Try.ntmps72
  go_wp2
  go_loopw [1, 8, 9] (fun qv v i wr => ∃ k : Nat, k ≤ s.size ∧ i = .int .i64 k ∧ qv = .int .i64 (secP m q s k) ∧ wr.ownsRow (w.heap.size + 1) 5 1 v (outsP m q s k).length (u8s (outsP m q s k)) ∧ MAt wr w.heap.size 0 m ∧ Below w.heap.size w wr ∧ w.heap.size + 1 ≤ wr.heap.size) (fun _ _ i _ => s.size - (intOf i).toNat)
  case atStart =>
    refine ⟨0, Nat.zero_le _, rfl, rfl, ?_, hm.alloc (by simp) _, hb0.alloc (by simp) _, by simp⟩
    have := World.ownsRow_made (base := w.heap.size + 1) (e := 5) (size := 1) (w.alloc (.cells m.cells.toArray 44)) #[] 0 (by simp) (by simp [maxLen]) (by simp)
    simpa [outsP, runL, u8s] using this
  case round =>
    obtain ⟨k, hk, rfl, rfl, hown, hmr, hbr, hsz⟩ := hrel
    by_cases hlt : k < s.size
    · obtain ⟨x, hx⟩ : ∃ x : Nat, (s[k]).toNat = 48 + x := ⟨(s[k]).toNat - 48, by have := (lets_at HS.out hlt).1; omega⟩
      have hxL : x < m.l := by have := (lets_at HS.out hlt).2; have := hok.L_eq; omega
      have hx3 : x < 3 := by have := hok.l_le; omega
      have hqs := secP_lt hok hwf HQ.out HS.out k
      have hq16 : secP m q s k < 16 := by have := hok.s_le; omega
      have e3 := hmr.oo hwf hq16 hx3
      have e2 := hmr.nn hwf hq16 hx3
      rw [hok.o_eq hwf hqs hxL] at e3
      rw [hok.n_eq hwf hqs hxL] at e2
      have hy := hok.on_lt hwf hqs hxL
      have hy3 : m.on (secP m q s k) x < 3 := by have := hok.l_le; omega
      have hn16 : m.nn (secP m q s k) x < 16 := by have := hok.nn_lt hwf hqs hxL; have := hok.s_le; omega
      have HO := Lib.hid (show outsP m q s (k + 1) = outsP m q s k ++ [((48 + m.on (secP m q s k) x : Nat) : Int)] by rw [outsP_succ hlt, hx, Nat.add_sub_cancel_left])
      have HT := Lib.hid (show secP m q s (k + 1) = m.nn (secP m q s k) x by rw [secP_succ hlt, hx, Nat.add_sub_cancel_left])
      have HLEN := Lib.hid (outsP_length (m := m) (q := q) (s := s) hk)
      have hbx : ((s[k]).toNat : Int) = 48 + (x : Int) := by omega
      clear hx hxL hqs hm
      generalize m.on (secP m q s k) x = y at *
      generalize m.nn (secP m q s k) x = z at *
      obtain ⟨p, hp⟩ : ∃ p, p = secP m q s k := ⟨_, rfl⟩
      rw [← hp] at hq16 e2 e3
      rw [← hp]
      have HP := Lib.hid hp
      clear hp
      have i1 : (p : Int) < 16 := by omega
      have i2 : (x : Int) < 3 := by omega
      have i3 : (y : Int) < 3 := by omega
      go_wp2_with (at_builtin; refine wpList_append_own _ rfl _ _ 82 rfl (w.heap.size + 1) 5 i0 (.int .u8 0) 1 1 Try.underlying82 hi hz0 hz1 hz2 rfl (by decide) _ _ _ rfl (hown.alloc _) ⟨wr.heap.size, 0, none⟩ 1 1 [.int .u8 (48 + y)] rfl rfl ?c1 ?c2 ?c3 ?c4 ?c5 ?_)
      case c1 =>
        intro j u hj
        match j, hj with
        | 0, hj => simp at hj; subst hj; simp [Addr.add]
      case c2 => intro u hu; simp at hu; subst hu; rfl
      case c3 => rw [HLEN.out]; unfold maxLen; omega
      case c4 => rw [HLEN.out]; omega
      case c5 => simp; omega
      intro v' w1 hown' hgrow _
      obtain ⟨hb1, hsz1, hsame⟩ := grown_below hbr hown (by omega) (by omega) hgrow
      have hm1 := hmr.same (hsame w.heap.size (by omega) (by omega))
      have e2' : w1.cell? ⟨w.heap.size, 0 + 2 + p * 3 + x, none⟩ = some (.int .u8 z) := (World.cell?_of_block (w := wr) (hsame w.heap.size (by omega) (by omega))).trans e2
      clear hown e2 e3 hmr
      go_wp2
      go_roundw
      case rel => exact ⟨k + 1, by omega, by go_num, by rw [HT.out], by rw [HO.out, List.length_append]; simpa [u8s] using hown', hm1, hb1, by omega⟩
      case measure => simp [intOf]; omega
    · have hk' : k = s.size := by omega
      subst hk'
      have hstr := own_str hown
      have HT := Lib.hid (outsP_all (m := m) (q := q) (s := s))
      have HU := Lib.hid (secP_all (m := m) (q := q) (s := s))
      go_wp2
      go_ret2
      exact ⟨ret2_of HT.out (by rw [HU.out]), hbr⟩
end Go.Proofs.Ytmacnofkpdikiaa
