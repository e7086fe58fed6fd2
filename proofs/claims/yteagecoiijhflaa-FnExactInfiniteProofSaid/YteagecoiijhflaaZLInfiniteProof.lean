import Derived.Test.YteagecoiijhflaaZLOrderOf19
import Derived.Test.YteagecoiijhflaaZLOrderOf
/- InfiniteProof of both sides. -/
namespace Go.Proofs.Yteagecoiijhflaa
open Go.RowKit
set_option linter.unusedVariables false
set_option linter.unusedSimpArgs false

theorem results_cell2 {P : Program} {fn : Func} {p q : Tmp} {ty : TypeId} (h : fn.results = #[.cell p ty, .tmp q]) (tmps : Array Value) (w : World) (g : Nat) (t : TypeId) (cs : Array Value) (fr : Nat × Nat) (d : TypeDesc)
    (hp : tmps.getD p undef = .pointer (some ⟨g, 0, none⟩)) (hg : w.heap[g]? = some (.cells cs t fr))
    (hu : P.underlying ty = some d) (hd : (match d with | .struct _ | .array _ _ => true | _ => false) = true) (hi : (P.info? ty).map (·.size) = some cs.size) :
    (results fn tmps).run P w = .ok (.tuple #[.agg cs, tmps.getD q undef]) w := by
  have hp' : tmps[p]?.getD undef = .pointer (some ⟨g, 0, none⟩) := by simpa using hp
  simp [results, h, hp', asAddr, run_loadVar_row w g t ty cs fr d hg hu hd hi]
/-- InfiniteProof's answer -/
def infO : Ores → (ByteArray × Nat) × Int
  | .ok _ => ((⟨#[]⟩, 0), 4)
  | .inf ls f => ((txt ls, f), 0)
  | .lim => ((⟨#[]⟩, 0), 3)
def infI (m : Mch) (g : Wd) : (ByteArray × Nat) × Int := match gwsB m [g] with
  | true => infO (ordW m g)
  | false => ((⟨#[]⟩, 0), 1)
theorem infI_ok {m : Mch} {g : Wd} (h : gwsB m [g] = true) {r : Ores} (hr : ordW m g = r) : infI m g = infO r := by rw [infI, h, ← hr]
theorem infI_bad {m : Mch} {g : Wd} (h : gwsB m [g] = false) : infI m g = ((⟨#[]⟩, 0), 1) := by rw [infI, h]
def RetPr (r : (ByteArray × Nat) × Int) (w : World) (e : Ending) (w' : World) : Prop := e = .returned (.tuple #[.agg #[.string r.1.1, .int .i64 (r.1.2 : Int)], .int .i64 r.2]) ∧ Below w.heap.size w w'

set_option maxRecDepth 100000 in
set_option maxHeartbeats 2000000 in
theorem specInfiniteProof_any (m : Mch) (hwf : m.Wf) (a : Option Addr) (g : Wd) (c : Nat) (hl : g.length ≤ 1100000) (w : World) (hI : IntsAt w a g) :
    Calls Try.prog 40 #[.agg m.cells.toArray, .slice a g.length c] w (RetPr (infI m g) w) := by
  have hM0 := ((Mm.start w).alloc m.cells.toArray 29).alloc #[.string ⟨#[]⟩, .int .i64 0] 53
  rw [show (w.alloc (.cells m.cells.toArray 29)).heap.size = w.heap.size + 1 by simp] at hM0
  have hm := hM0.mach 1 rfl
  have HI := Lib.hid hI
  have hsz : ((w.alloc (.cells m.cells.toArray 29)).alloc (.cells #[.string ⟨#[]⟩, .int .i64 0] 53)).heap.size = w.heap.size + 1 + 1 := by simp
  have hS := slII_one (c := c) hI hM0.below 26
  rw [hsz] at hS
  have HG := Lib.hid (l02Code_any m hwf _ [g] (by simp) (fun i => by
    cases i with
    | zero => simpa using hl
    | succ i => simp) _ hS)
  have hM1 := hM0.allocO (.cells #[.slice a g.length c] 26)
  have HM1 := Lib.hid hM1
  clear hI hS hM0 hM1 hsz
  go_enter Try.func40, Try.ntmps40
  go_wp2_with ((with_reducible refine ld_mach ?_ (.tmp 2) ?_ (w.heap.size) (0) ?_ m hm hwf ?_); exact rfl; exact rfl; exact rfl)
  refine HG.out.mono ?_
  rintro e w2 ⟨rfl, hb2⟩
  clear HG hm
  have hM2 := HM1.out.call hb2
  clear HM1
  cases hg : gwsB m [g] with
  | false =>
    have HD := Lib.hid (infI_bad hg)
    rw [codeG_bad hg]
    have f0 := (hM2.at 0 rfl).free 0
    have f1 := (hM2.at 0 rfl).free 1
    have g0 := (hM2.at 0 rfl).cell' (i := 0) rfl
    have g1 := (hM2.at 0 rfl).cell' (i := 1) rfl
    have HM5 := Lib.hid ((hM2.setCell 0 rfl 0 (.string ⟨#[]⟩)).setCell 0 rfl 1 (.int .i64 0))
    clear hg hM2
    go_wp2_with fail
    exact bodyPost_ret (v := .tuple #[.agg #[.string ⟨#[]⟩, .int .i64 0], .int .i64 1]) (results_cell2 Try.results40 _ _ (w.heap.size + 1) 53 #[.string ⟨#[]⟩, .int .i64 0] (0, 0) (.struct _) rfl (HM5.out.at 0 rfl) Try.underlying53 rfl infoPr) rfl ⟨by rw [HD.out]; rfl, HM5.out.below⟩
  | true =>
    rw [codeG_ok hg]
    obtain ⟨hok, hgw, h40⟩ := gwsB_row hg (show 0 < [g].length by simp)
    simp only [List.getElem?_cons_zero, Option.getD_some] at hgw h40
    have HSE := Lib.hid (l06Search_any m hwf hok a g c hgw h40 w2 (HI.out.keep hM2.below))
    have hm2 := hM2.mach 1 rfl
    have HWO := Lib.hid (ordW_ok m g)
    have HGB := Lib.hid hg
    clear hg hgw
    go_wp2_with ((with_reducible refine ld_mach ?_ (.tmp 2) ?_ (w.heap.size) (0) ?_ m hm2 hwf ?_); exact rfl; exact rfl; exact rfl)
    refine HSE.out.mono ?_
    rintro e w3 ⟨rfl, hb3⟩
    have hM3 := hM2.call hb3
    clear hM2 hm2 HSE hb3
    cases ho : ordW m g with
    | ok n =>
      have HD := Lib.hid (infI_ok HGB.out ho)
      simp only [ho, resN, resC, resS, resF]
      have hn1 : 1 ≤ n := by have := HWO.out; rw [ho] at this; exact this.1
      have j1 : ((n : Int) != 0) = true := by simp; omega
      have hz := Blk.new w3 #[.string ⟨#[]⟩, .int .i64 0] 53
      have z0 := hz.free 0
      have z1 := hz.free 1
      have y0 := hz.cell' (i := 0) rfl
      have y1 := hz.cell' (i := 1) rfl
      have hM4 := hM3.alloc #[.string ⟨#[]⟩, .int .i64 0] 53
      have f0 := (hM4.at 1 rfl).free 0
      have f1 := (hM4.at 1 rfl).free 1
      have g0 := (hM4.at 1 rfl).cell' (i := 0) rfl
      have g1 := (hM4.at 1 rfl).cell' (i := 1) rfl
      have HM5 := Lib.hid ((hM4.setCell 1 rfl 0 (.string ⟨#[]⟩)).setCell 1 rfl 1 (.int .i64 0))
      clear ho hM3 hM4 hz HWO
      go_wp2_with fail
      exact bodyPost_ret (v := .tuple #[.agg #[.string ⟨#[]⟩, .int .i64 0], .int .i64 4]) (results_cell2 Try.results40 _ _ (w.heap.size + 1) 53 #[.string ⟨#[]⟩, .int .i64 0] (0, 0) (.struct _) rfl (HM5.out.at 1 rfl) Try.underlying53 rfl infoPr) rfl ⟨by rw [HD.out]; rfl, HM5.out.below⟩
    | inf ls q =>
      have HD := Lib.hid (infI_ok HGB.out ho)
      simp only [ho, resN, resC, resS, resF]
      have hz := Blk.new w3 #[.string ⟨#[]⟩, .int .i64 0] 53
      have z0 := hz.free 0
      have z1 := hz.free 1
      have y0 := hz.cell' (i := 0) rfl
      have y1 := hz.cell' (i := 1) rfl
      have hM4 := hM3.alloc #[.string (txt ls), .int .i64 (q : Int)] 53
      have f0 := (hM4.at 1 rfl).free 0
      have f1 := (hM4.at 1 rfl).free 1
      have g0 := (hM4.at 1 rfl).cell' (i := 0) rfl
      have g1 := (hM4.at 1 rfl).cell' (i := 1) rfl
      have l0 := (hM4.at 0 rfl).cell' (i := 0) rfl
      have l1 := (hM4.at 0 rfl).cell' (i := 1) rfl
      have HM5 := Lib.hid ((hM4.setCell 1 rfl 0 (.string (txt ls))).setCell 1 rfl 1 (.int .i64 (q : Int)))
      clear ho hM3 hM4 hz HWO
      go_wp2_with fail
      exact bodyPost_ret (v := .tuple #[.agg #[.string (txt ls), .int .i64 (q : Int)], .int .i64 0]) (results_cell2 Try.results40 _ _ (w.heap.size + 1) 53 #[.string (txt ls), .int .i64 (q : Int)] (0, 0) (.struct _) rfl (HM5.out.at 1 rfl) Try.underlying53 rfl infoPr) rfl ⟨by rw [HD.out]; rfl, HM5.out.below⟩
    | lim  =>
      have HD := Lib.hid (infI_ok HGB.out ho)
      simp only [ho, resN, resC, resS, resF]
      have hz := Blk.new w3 #[.string ⟨#[]⟩, .int .i64 0] 53
      have z0 := hz.free 0
      have z1 := hz.free 1
      have y0 := hz.cell' (i := 0) rfl
      have y1 := hz.cell' (i := 1) rfl
      have hM4 := hM3.alloc #[.string ⟨#[]⟩, .int .i64 0] 53
      have f0 := (hM4.at 1 rfl).free 0
      have f1 := (hM4.at 1 rfl).free 1
      have g0 := (hM4.at 1 rfl).cell' (i := 0) rfl
      have g1 := (hM4.at 1 rfl).cell' (i := 1) rfl
      have HM5 := Lib.hid ((hM4.setCell 1 rfl 0 (.string ⟨#[]⟩)).setCell 1 rfl 1 (.int .i64 0))
      clear ho hM3 hM4 hz HWO
      go_wp2_with fail
      exact bodyPost_ret (v := .tuple #[.agg #[.string ⟨#[]⟩, .int .i64 0], .int .i64 3]) (results_cell2 Try.results40 _ _ (w.heap.size + 1) 53 #[.string ⟨#[]⟩, .int .i64 0] (0, 0) (.struct _) rfl (HM5.out.at 1 rfl) Try.underlying53 rfl infoPr) rfl ⟨by rw [HD.out]; rfl, HM5.out.below⟩

set_option maxRecDepth 100000 in
set_option maxHeartbeats 2000000 in
theorem implInfiniteProof_any (m : Mch) (hwf : m.Wf) (a : Option Addr) (g : Wd) (c : Nat) (hl : g.length ≤ 1100000) (w : World) (hI : IntsAt w a g) :
    Calls Try.prog 41 #[.agg m.cells.toArray, .slice a g.length c] w (RetPr (infI m g) w) := by
  have hM0 := ((Mm.start w).alloc m.cells.toArray 29).alloc #[.string ⟨#[]⟩, .int .i64 0] 53
  rw [show (w.alloc (.cells m.cells.toArray 29)).heap.size = w.heap.size + 1 by simp] at hM0
  have hm := hM0.mach 1 rfl
  have HI := Lib.hid hI
  have hsz : ((w.alloc (.cells m.cells.toArray 29)).alloc (.cells #[.string ⟨#[]⟩, .int .i64 0] 53)).heap.size = w.heap.size + 1 + 1 := by simp
  have hS := slII_one (c := c) hI hM0.below 26
  rw [hsz] at hS
  have HG := Lib.hid (groupOf_any m hwf _ [g] (by simp) (fun i => by
    cases i with
    | zero => simpa using hl
    | succ i => simp) _ hS)
  have hM1 := hM0.allocO (.cells #[.slice a g.length c] 26)
  have HM1 := Lib.hid hM1
  clear hI hS hM0 hM1 hsz
  go_enter Try.func41, Try.ntmps41
  go_wp2_with ((with_reducible refine ld_mach ?_ (.tmp 2) ?_ (w.heap.size) (0) ?_ m hm hwf ?_); exact rfl; exact rfl; exact rfl)
  refine HG.out.mono ?_
  intro e w2 hR
  clear HG hm
  cases hg : gwsB m [g] with
  | false =>
    rw [hg] at hR
    obtain ⟨rfl, hb2⟩ := hR
    have hM2 := HM1.out.call hb2
    clear HM1
    have HD := Lib.hid (infI_bad hg)
    have f0 := (hM2.at 0 rfl).free 0
    have f1 := (hM2.at 0 rfl).free 1
    have g0 := (hM2.at 0 rfl).cell' (i := 0) rfl
    have g1 := (hM2.at 0 rfl).cell' (i := 1) rfl
    have HM5 := Lib.hid ((hM2.setCell 0 rfl 0 (.string ⟨#[]⟩)).setCell 0 rfl 1 (.int .i64 0))
    clear hg hM2
    go_wp2_with fail
    exact bodyPost_ret (v := .tuple #[.agg #[.string ⟨#[]⟩, .int .i64 0], .int .i64 1]) (results_cell2 Try.results41 _ _ (w.heap.size + 1) 53 #[.string ⟨#[]⟩, .int .i64 0] (0, 0) (.struct _) rfl (HM5.out.at 0 rfl) Try.underlying53 rfl infoPr) rfl ⟨by rw [HD.out]; rfl, HM5.out.below⟩
  | true =>
    rw [hg] at hR
    obtain ⟨G, rfl, hb2, hGr⟩ := hR
    have hM2 := HM1.out.call hb2
    clear HM1
    obtain ⟨hok, hgw, h40⟩ := gwsB_row hg (show 0 < [g].length by simp)
    simp only [List.getElem?_cons_zero, Option.getD_some] at hgw h40
    have HSE := Lib.hid (gorder_any m hwf hok G a g c hgw h40 w2 hGr (HI.out.keep hM2.below))
    have HWO := Lib.hid (ordW_ok m g)
    have HGB := Lib.hid hg
    clear hg hgw hGr hb2
    go_wp2_with fail
    refine HSE.out.mono ?_
    rintro e w3 ⟨ps, pf, rfl, hb3, hinf⟩
    have hM3 := hM2.call hb3
    clear hM2 HSE hb3
    cases ho : ordW m g with
    | ok n =>
      have HD := Lib.hid (infI_ok HGB.out ho)
      simp only [ho, resN, resC]
      have hn1 : 1 ≤ n := by have := HWO.out; rw [ho] at this; exact this.1
      have j1 : ((n : Int) != 0) = true := by simp; omega
      have hz := Blk.new w3 #[.string ⟨#[]⟩, .int .i64 0] 53
      have z0 := hz.free 0
      have z1 := hz.free 1
      have y0 := hz.cell' (i := 0) rfl
      have y1 := hz.cell' (i := 1) rfl
      have hM4 := hM3.alloc #[.string ps, .int .i64 (pf : Int)] 53
      have f0 := (hM4.at 1 rfl).free 0
      have f1 := (hM4.at 1 rfl).free 1
      have g0 := (hM4.at 1 rfl).cell' (i := 0) rfl
      have g1 := (hM4.at 1 rfl).cell' (i := 1) rfl
      have HM5 := Lib.hid ((hM4.setCell 1 rfl 0 (.string ⟨#[]⟩)).setCell 1 rfl 1 (.int .i64 0))
      clear ho hM3 hM4 hz HWO hinf
      go_wp2_with fail
      exact bodyPost_ret (v := .tuple #[.agg #[.string ⟨#[]⟩, .int .i64 0], .int .i64 4]) (results_cell2 Try.results41 _ _ (w.heap.size + 1) 53 #[.string ⟨#[]⟩, .int .i64 0] (0, 0) (.struct _) rfl (HM5.out.at 1 rfl) Try.underlying53 rfl infoPr) rfl ⟨by rw [HD.out]; rfl, HM5.out.below⟩
    | inf ls q =>
      have HD := Lib.hid (infI_ok HGB.out ho)
      simp only [ho, resN, resC]
      obtain ⟨rfl, rfl⟩ : ps = txt ls ∧ pf = q := by have := hinf ⟨ls, q, ho⟩; rw [ho] at this; exact this
      have hz := Blk.new w3 #[.string ⟨#[]⟩, .int .i64 0] 53
      have z0 := hz.free 0
      have z1 := hz.free 1
      have y0 := hz.cell' (i := 0) rfl
      have y1 := hz.cell' (i := 1) rfl
      have hM4 := hM3.alloc #[.string (txt ls), .int .i64 (pf : Int)] 53
      have f0 := (hM4.at 1 rfl).free 0
      have f1 := (hM4.at 1 rfl).free 1
      have g0 := (hM4.at 1 rfl).cell' (i := 0) rfl
      have g1 := (hM4.at 1 rfl).cell' (i := 1) rfl
      have l0 := (hM4.at 0 rfl).cell' (i := 0) rfl
      have l1 := (hM4.at 0 rfl).cell' (i := 1) rfl
      have HM5 := Lib.hid ((hM4.setCell 1 rfl 0 (.string (txt ls))).setCell 1 rfl 1 (.int .i64 (pf : Int)))
      clear ho hM3 hM4 hz HWO hinf
      go_wp2_with fail
      exact bodyPost_ret (v := .tuple #[.agg #[.string (txt ls), .int .i64 (pf : Int)], .int .i64 0]) (results_cell2 Try.results41 _ _ (w.heap.size + 1) 53 #[.string (txt ls), .int .i64 (pf : Int)] (0, 0) (.struct _) rfl (HM5.out.at 1 rfl) Try.underlying53 rfl infoPr) rfl ⟨by rw [HD.out]; rfl, HM5.out.below⟩
    | lim  =>
      have HD := Lib.hid (infI_ok HGB.out ho)
      simp only [ho, resN, resC]
      have hz := Blk.new w3 #[.string ⟨#[]⟩, .int .i64 0] 53
      have z0 := hz.free 0
      have z1 := hz.free 1
      have y0 := hz.cell' (i := 0) rfl
      have y1 := hz.cell' (i := 1) rfl
      have hM4 := hM3.alloc #[.string ps, .int .i64 (pf : Int)] 53
      have f0 := (hM4.at 1 rfl).free 0
      have f1 := (hM4.at 1 rfl).free 1
      have g0 := (hM4.at 1 rfl).cell' (i := 0) rfl
      have g1 := (hM4.at 1 rfl).cell' (i := 1) rfl
      have HM5 := Lib.hid ((hM4.setCell 1 rfl 0 (.string ⟨#[]⟩)).setCell 1 rfl 1 (.int .i64 0))
      clear ho hM3 hM4 hz HWO hinf
      go_wp2_with fail
      exact bodyPost_ret (v := .tuple #[.agg #[.string ⟨#[]⟩, .int .i64 0], .int .i64 3]) (results_cell2 Try.results41 _ _ (w.heap.size + 1) 53 #[.string ⟨#[]⟩, .int .i64 0] (0, 0) (.struct _) rfl (HM5.out.at 1 rfl) Try.underlying53 rfl infoPr) rfl ⟨by rw [HD.out]; rfl, HM5.out.below⟩
end Go.Proofs.Yteagecoiijhflaa

/- The program's InfiniteProof answers as the reference's, for every machine and every word: the law FnExactInfiniteProof. No conditions. -/
namespace Go.Proofs.Yteagecoiijhflaa
open Go.ChangeShapes Go.WideShapes Go.ChangeAt Go.RowKit Go.Joins
set_option linter.unusedVariables false
set_option linter.unusedSimpArgs false

set_option maxHeartbeats 1000000 in
theorem eqProof_same (s : ByteArray) (f : Nat) (w : World) : Calls Try.prog 42 #[.agg #[.string s, .int .i64 (f : Int)], .agg #[.string s, .int .i64 (f : Int)]] w (Ret (.bool true) w) := by
  go_enter Try.func42, Try.ntmps42
  go_wp2_with fail
  go_ret
  exact ⟨rfl, ((Below.refl _ _).alloc (Nat.le_refl _) _).alloc (by simp) _⟩

set_option maxRecDepth 100000 in
set_option maxHeartbeats 4000000 in
theorem lawInfiniteProof_core (m : Mch) (hwf : m.Wf) (v : Value) (g : Wd) (hn : g.length ≤ 9223372036854775807) (w : World) (hS : SlI w v g) :
    Calls Try.prog 10 #[.agg m.cells.toArray, v] w (Ret (.bool true) w) := by
  obtain ⟨a, c, rfl, hI⟩ := hS
  have HI0 := Lib.hid hI
  have hM0 := (Mm.start w).alloc m.cells.toArray 25
  have hi : (Try.prog.info? 25).map (·.size) = some m.cells.length := by rw [Mch.cells_length hwf]; kernel_rfl
  have HI := Lib.hid hi
  clear hi hI
  go_enter Try.func10, Try.ntmps10
  by_cases hbig : 1048576 < g.length
  · have hb := hM0.below
    have hbig' : (1048576 : Int) < (g.length : Int) := by omega
    clear hM0
    go_wp2_with fail
    go_ret
    exact ⟨rfl, hb⟩
  · have hbig' : (g.length : Int) ≤ 1048576 := by omega
    have hr1 : (w.alloc (.cells m.cells.toArray 25)).rangeAt w.heap.size 0 m.cells := hM0.mach 0 rfl
    go_wp2_with ((with_reducible refine ld_row ?_ 25 (.tmp 2) ?_ w.heap.size 0 ?_ m.cells (.struct _) hr1 Try.underlying25 ?_ HI.out ?_); exact rfl; exact rfl; exact rfl; exact rfl)
    refine (toMachine_any m hwf _).mono ?_
    rintro e w1 ⟨rfl, hb1⟩
    have hM1 := hM0.call hb1
    clear hM0 hr1
    go_wp2_with fail
    refine (toInt64S_any a g c (by omega) _ (HI0.out.keep hM1.below)).mono ?_
    rintro e w2 ⟨v2, rfl, hb2, hO2⟩
    obtain ⟨a2, c2, rfl, hI2⟩ := hO2.form
    have hM2 := hM1.call hb2
    have HSP := Lib.hid (specInfiniteProof_any m hwf a2 g c2 (by omega) w2 hI2)
    clear hM1 hO2 hI2
    go_wp2_with fail
    refine HSP.out.mono ?_
    clear HSP
    obtain ⟨R, hR⟩ : ∃ R, R = infI m g := ⟨_, rfl⟩
    have HR := Lib.hid hR
    rw [← hR]
    clear hR
    obtain ⟨⟨ps, pf⟩, cd⟩ := R
    rintro e w3 ⟨rfl, hb3⟩
    have hM3' := hM2.call hb3
    have hz := Blk.new w3 #[.string ⟨#[]⟩, .int .i64 0] 53
    have z0 := hz.free 0
    have z1 := hz.free 1
    have y0 := hz.cell' (i := 0) rfl
    have y1 := hz.cell' (i := 1) rfl
    have hM3 := hM3'.alloc #[.string ps, .int .i64 (pf : Int)] 53
    clear hM2 hM3' hz
    go_wp2_with fail
    clear z0 z1 y0 y1
    obtain ⟨b5, hb5⟩ : ∃ b, b = w3.heap.size := ⟨_, rfl⟩
    rw [← hb5] at hM3 ⊢
    obtain ⟨W3, hW3⟩ : ∃ W, W = w3.alloc (.cells #[.string ps, .int .i64 (pf : Int)] 53) := ⟨_, rfl⟩
    rw [← hW3] at hM3 ⊢
    clear hb5 hW3
    refine (toInt64S_any a g c (by omega) _ (HI0.out.keep hM3.below)).mono ?_
    rintro e w4 ⟨v4, rfl, hb4, hO4⟩
    obtain ⟨a4, c4, rfl, -⟩ := hO4.form
    have hM4 := hM3.callOwn hb4 hO4 (by simp [i64s])
    have hr4 : w4.rangeAt w.heap.size 0 m.cells := hM4.mach 1 rfl
    clear hM3 hO4
    go_wp2_with ((with_reducible refine ld_row ?_ 25 (.tmp 2) ?_ w.heap.size 0 ?_ m.cells (.struct _) hr4 Try.underlying25 ?_ HI.out ?_); exact rfl; exact rfl; exact rfl; exact rfl)
    refine (toMachine_any m hwf _).mono ?_
    rintro e w5 ⟨rfl, hb5⟩
    have hM5 := hM4.call hb5
    have HIM := Lib.hid (implInfiniteProof_any m hwf a4 g c4 (by omega) w5 (hM5.intsAt 0 rfl))
    rw [← HR.out] at HIM
    clear hM4 hr4
    go_wp2_with fail
    refine HIM.out.mono ?_
    rintro e w6 ⟨rfl, hb6⟩
    have hM6' := hM5.call hb6
    have hz := Blk.new w6 #[.string ⟨#[]⟩, .int .i64 0] 53
    have z0 := hz.free 0
    have z1 := hz.free 1
    have y0 := hz.cell' (i := 0) rfl
    have y1 := hz.cell' (i := 1) rfl
    have hM6 := hM6'.alloc #[.string ps, .int .i64 (pf : Int)] 53
    have p0 := (hM6.at 0 rfl).cell' (i := 0) rfl
    have p1 := (hM6.at 0 rfl).cell' (i := 1) rfl
    have q0 := (hM6.at 1 rfl).cell' (i := 0) rfl
    have q1 := (hM6.at 1 rfl).cell' (i := 1) rfl
    clear hM5 hM6' HIM hz
    go_wp2_with fail
    refine (eqProof_same ps pf _).mono ?_
    rintro e w7 ⟨rfl, hb7⟩
    have hM6 := hM6.call hb7
    clear z0 z1 y0 y1 p0 p1 q0 q1
    go_wp2_with fail
    refine (toInt64S_any a g c (by omega) _ (HI0.out.keep hM6.below)).mono ?_
    rintro e w8 ⟨v8, rfl, hb8, hO8⟩
    obtain ⟨a8, c8, rfl, hI8⟩ := hO8.form
    have hM8 := hM6.call hb8
    clear hM6 hO8
    go_wp2_with fail
    refine (eqI_same a4 a8 c4 c8 g (by omega) _ (hM8.intsAt 0 rfl) hI8).mono ?_
    rintro e w9 ⟨rfl, hb9⟩
    have hbb := (hM8.call hb9).below
    clear hM8 hI8
    go_wp2_with fail
    go_ret
    exact ⟨rfl, hbb⟩

set_option maxRecDepth 100000 in
theorem lawInfiniteProof_lifted (os : Os) (started : os.Started) (H : Type) (enc : TypeId × Value → H) :
    ReturnsInHanded {} Try.checked os 10 .any (Rows.fnExactInfiniteProofSpec.pre6 enc Try.prog Try.f10 Rows.fnExactInfiniteProofRow.domain false) (Rows.fnExactInfiniteProofSpec.post enc Try.prog Try.f10 false true false false) := by
  refine returnsInHanded_of_change (C := Try.checked) Try.own started (by kernel_rfl) Try.func10
    (ChangeSpec.witness6 (enc := enc) (C := Try.checked) false ⟨#[], #[.agg ((Value.int .i64 0 :: Value.int .i64 0 :: List.replicate 96 (Value.int .u8 0)).toArray), .slice none 0 0], []⟩ 8 (by kernel_rfl) (by kernel_rfl) (by kernel_rfl) (by kernel_rfl)) ?_
  intro W base args ds gs before hval0 hW _ _
  have hval : ∀ (j : Nat) t v, Try.f10.params[j]? = some t → args[j]? = some v → Value.okWide Try.prog W .any base t v := hval0
  have hW' := hW
  obtain ⟨p, q, hA0, hV, rfl, _, _⟩ := hW
  have hA : DataW.TrodAll enc Try.prog W 0 (fun _ => true) true Try.f10.params.toList args.toList ds p := hA0
  rw [Try.params10] at hA hval
  obtain ⟨v0, v1, d0, d1, p0, p1, rfl, rfl, rfl, h0, h1⟩ := trodAll_two hA
  obtain ⟨rfl, rfl⟩ := trodVars_none hV
  obtain ⟨m, hwf, rfl⟩ := open_mach (hval 0 25 v0 rfl rfl) h0
  obtain ⟨g, hS, hn⟩ := open_row (hval 1 26 v1 rfl rfl) h1
  refine (lawInfiniteProof_core m hwf v1 g hn W hS).mono fun e W' ⟨he, hb⟩ => ⟨_, he, ?_⟩
  exact law_post Try.laidOut (by kernel_rfl) hW' rfl rfl rfl rfl hb rfl Try.underlying4

theorem infiniteProof_closed : joinedFacts Try.checked.prog 10 Try.f10 Rows.fnExactInfiniteProofSpec Rows.fnExactInfiniteProofRow = true := by
  unfold joinedFacts
  rw [c_enter, c_lifts, c_make]
  kernel_rfl

theorem infiniteProof_holds : Rows.FnExactInfiniteProofSaid :=
  OpenClaim.holds_of_wide 10 Try.f10 rfl rfl rfl rfl rfl rfl rfl ⟨rfl, rfl, rfl, rfl, rfl⟩ rfl rfl rfl rfl rfl (by kernel_rfl) Try.func10 infiniteProof_closed
    (of_decide_eq_true (by kernel_rfl)) (by unfold Func.isWrapper; first | (rw [if_pos (by decide +kernel)]; kernel_rfl) | (rw [if_neg (by decide +kernel)]; exact ⟨rfl, rfl⟩))
    (fun os started H enc _ => lawInfiniteProof_lifted os started H enc)
#print axioms infiniteProof_holds
end Go.Proofs.Yteagecoiijhflaa
