/- ActiveAt and its reference. -/
import Derived.Test.YtmacnofkpdikiaaY2
import Derived.Test.YtmacnofkpdikiaaX1
import Derived.Test.YtmacnofkpdikiaaU
import Derived.Test.YtmacnofkpdikiaaM
import Derived.Test.YtmacnofkpdikiaaI
namespace Go.Proofs.Ytmacnofkpdikiaa
open Go.RowKit
set_option linter.unusedVariables false
set_option linter.unusedSimpArgs false

theorem code_zero {m : Mch} {q : Int} {s : ByteArray} (h : codeP m q s = 0) : m.Ok ∧ letsP m.L s = true ∧ s.size ≤ 40 ∧ ∃ n : Nat, q = n ∧ n < m.s := by
  simp only [codeP] at h
  split at h
  · rename_i h1
    split at h
    · rename_i h2
      simp only [Bool.and_eq_true, wordP, decide_eq_true_eq] at h1
      have hok := mach_ok h1.1
      simp only [inR, Bool.and_eq_true, decide_eq_true_eq] at h2
      have := hok.S_eq
      exact ⟨hok, h1.2.1, h1.2.2, q.toNat, by omega, by omega⟩
    · omega
  · omega
theorem codeP_range (m : Mch) (q : Int) (s : ByteArray) : 0 ≤ codeP m q s ∧ codeP m q s ≤ 2 := by
  simp only [codeP]; split <;> (try split) <;> omega
def actB (m : Mch) (q : Int) (s : ByteArray) : Bool := if codeP m q s = 0 then !trivB m (runL m q.toNat (lts s)).2 else false
theorem ret2_bi {b b' : Bool} {u u' : Int} (h : b = b') (k : u = u') : Ending.returned (.tuple #[.bool b, .int .i64 u]) = .returned (.tuple #[.bool b', .int .i64 u']) := by rw [h, k]

set_option maxRecDepth 100000 in
set_option maxHeartbeats 800000 in
theorem specActiveAt_any (m : Mch) (hwf : m.Wf) (q : Int) (s : ByteArray) (hs : Short s) (w : World) :
    Calls Try.prog 31 #[.agg m.cells.toArray, .int .i64 q, .string s] w (Ret2 (.bool (actB m q s)) (.int .i64 (codeP m q s)) w) := by
  have hm := MAt.boxed w m 44
  have hb0 := boxedBelow w m.cells.toArray 44
  have HS := Lib.hid hs
  clear hs
  have HR := Lib.hid (codeP_range m q s)
  go_enter Try.func31, Try.ntmps31
  go_wp2_with ((with_reducible refine ld_mach ?_ (.tmp 3) ?_ (w.heap.size) (0) ?_ m hm hwf ?_); exact rfl; exact rfl; exact rfl)
  refine (l01Code_any m hwf q s HS.out _).mono ?_
  rintro e w1 ⟨rfl, hb1⟩
  have hm1 := hm.keep hb1 hwf
  have hbb1 := hb0.trans (hb1.mono hb0.size)
  by_cases c0 : codeP m q s = 0
  · obtain ⟨hok, hlet, h40, n, rfl, hn⟩ := code_zero c0
    have HA := Lib.hid (show actB m n s = !trivB m (runL m n (lts s)).2 by rw [actB, if_pos c0, Int.toNat_natCast])
    have HC := Lib.hid c0
    have hown : (runL m n (lts s)).2 < m.s := runL_state hok hwf _ _ hn (lts_lt hok hlet)
    have hs16 := hok.s_le
    rw [c0]
    clear c0
    go_wp2_with ((with_reducible refine ld_mach ?_ (.tmp 3) ?_ (w.heap.size) (0) ?_ m hm1 hwf ?_); exact rfl; exact rfl; exact rfl)
    refine (l01Act_any m hwf hok n hn s hlet h40 _).mono ?_
    rintro e w2 ⟨rfl, hb2⟩
    have hm2 := hm1.keep hb2 hwf
    have hbb2 := hbb1.trans (hb2.mono hbb1.size)
    go_wp2_with ((with_reducible refine ld_mach ?_ (.tmp 3) ?_ (w.heap.size) (0) ?_ m hm2 hwf ?_); exact rfl; exact rfl; exact rfl)
    refine (l01Trivial_any m hwf hok _).mono ?_
    rintro e w3 ⟨rfl, hb3⟩
    have hbb3 := hbb2.trans (hb3.mono hbb2.size)
    generalize (runL m n (lts s)).2 = r at *
    have hz := Blk.new w3 #[.bool false, .bool false, .bool false, .bool false, .bool false, .bool false, .bool false, .bool false, .bool false, .bool false, .bool false, .bool false, .bool false, .bool false, .bool false, .bool false] 89
    have hth := hz.there 0 (bls (trivB m)).length (by simp [bls])
    have hi : (Try.prog.info? 89).map (·.size) = some (bls (trivB m)).length := by rw [show (bls (trivB m)).length = 16 by simp [bls]]; kernel_rfl
    have HI' := Lib.hid hi
    have H1 : Hid (∀ v ∈ bls (trivB m), v.oneCell' = true) := fun v hv => by simp only [bls, List.mem_map] at hv; obtain ⟨z, _, rfl⟩ := hv; rfl
    have hres := hz.setAll (vs := bls (trivB m)) (by simp [bls])
    have hcell := hres.cell' (bls_get (trivB m) (q := r) (by omega))
    have hbb4 := below_setCells (b := w3.heap.size) hbb3.size (bls (trivB m)) (hbb3.alloc hbb3.size (.cells #[.bool false, .bool false, .bool false, .bool false, .bool false, .bool false, .bool false, .bool false, .bool false, .bool false, .bool false, .bool false, .bool false, .bool false, .bool false, .bool false] 89)) 0
    have i1 : (0 : Int) ≤ (r : Int) := by omega
    have i2 : (r : Int) < 16 := by omega
    clear hi hz
    go_wp2_with ((with_reducible refine st_row ?_ 89 (.tmp 11) (.tmp 27) ?_ w3.heap.size 0 (bls (trivB m)) ?_ ?_ hth HI'.out H1.out ?_); exact rfl; exact rfl; exact rfl; exact rfl)
    go_ret2
    exact ⟨ret2_bi HA.out.symm HC.out.symm, hbb4⟩
  · have HA := Lib.hid (show actB m q s = false by rw [actB, if_neg c0])
    have c1 : (codeP m q s != 0) = true := by simpa using c0
    clear c0
    generalize hc : codeP m q s = c at *
    clear hc
    go_wp2_with fail
    go_ret2
    exact ⟨ret2_bi HA.out.symm rfl, hbb1⟩

set_option maxRecDepth 100000 in
set_option maxHeartbeats 800000 in
theorem implActiveAt_any (m : Mch) (hwf : m.Wf) (q : Int) (s : ByteArray) (hs : Short s) (w : World) :
    Calls Try.prog 33 #[.agg m.cells.toArray, .int .i64 q, .string s] w (Ret2 (.bool (actB m q s)) (.int .i64 (codeP m q s)) w) := by
  have hm := MAt.boxed w m 44
  have hb0 := boxedBelow w m.cells.toArray 44
  have hI : IntsAt ((w.alloc (.cells m.cells.toArray 44)).alloc (.cells #[.int .i64 q] 2)) (some ⟨w.heap.size + 1, 0, none⟩) [q] := fun i hi => by
    have : i = 0 := by simpa using hi
    subst this
    have := (Blk.new (w.alloc (.cells m.cells.toArray 44)) #[.int .i64 q] 2).cell' (i := 0) rfl
    rw [show (w.alloc (.cells m.cells.toArray 44)).heap.size = w.heap.size + 1 by simp] at this
    exact ⟨_, 0, rfl, this⟩
  have hm0 := hm.alloc (by simp) (.cells #[.int .i64 q] 2)
  have hb00 := hb0.alloc (by simp) (.cells #[.int .i64 q] 2)
  have HS := Lib.hid hs
  clear hs
  have HR := Lib.hid (codeP_range m q s)
  have HIQ := Lib.hid hI
  clear hI
  go_enter Try.func33, Try.ntmps33
  go_wp2_with ((with_reducible refine ld_mach ?_ (.tmp 3) ?_ (w.heap.size) (0) ?_ m hm hwf ?_); exact rfl; exact rfl; exact rfl)
  refine (codeOf_any m hwf _ [q] 1 (by simp) s HS.out _ HIQ.out).mono ?_
  rintro e w1 ⟨rfl, hb1⟩
  rw [codesP_one]
  have hm1 := hm0.keep hb1 hwf
  have hbb1 := hb00.trans (hb1.mono hb00.size)
  by_cases c0 : codeP m q s = 0
  · obtain ⟨hok, hlet, h40, n, rfl, hn⟩ := code_zero c0
    have HA := Lib.hid (show actB m n s = !trivB m (runL m n (lts s)).2 by rw [actB, if_pos c0, Int.toNat_natCast])
    have HC := Lib.hid c0
    have hown : (runL m n (lts s)).2 < m.s := runL_state hok hwf _ _ hn (lts_lt hok hlet)
    have hs16 := hok.s_le
    rw [c0]
    clear c0
    go_wp2_with fail
    refine (lead_any w.heap.size 0 m hwf hok n hn s hlet h40 _ hm1).mono ?_
    rintro e w2 ⟨rfl, hb2⟩
    have hm2 := hm1.keep hb2 hwf
    have hbb2 := hbb1.trans (hb2.mono hbb1.size)
    go_wp2_with fail
    refine (table_any w.heap.size 0 m hwf hok _ hm2).mono ?_
    rintro e w3 ⟨T, rfl, hb3, hT⟩
    have hbb3 := hbb2.trans (hb3.mono hbb2.size)
    have hR := hT.reads hok.s_pos
    go_wp2_with fail
    refine (tableTrivial_any T m hwf hok _ hR).mono ?_
    rintro e w4 ⟨g, rfl, hb4, hB⟩
    have hbb4 := hbb3.trans (hb4.mono hbb3.size)
    generalize (runL m n (lts s)).2 = r at *
    have hcell := hB.cell' (bvs_get (trivB m) hown)
    have i1 : (0 : Int) ≤ (r : Int) := by omega
    have i2 : (r : Int) < (m.s : Int) := by omega
    go_wp2_with fail
    go_ret2
    exact ⟨ret2_bi HA.out.symm HC.out.symm, hbb4⟩
  · have HA := Lib.hid (show actB m q s = false by rw [actB, if_neg c0])
    have c1 : (codeP m q s != 0) = true := by simpa using c0
    clear c0
    generalize hc : codeP m q s = c at *
    clear hc
    go_wp2_with fail
    go_ret2
    exact ⟨ret2_bi HA.out.symm rfl, hbb1⟩
end Go.Proofs.Ytmacnofkpdikiaa
