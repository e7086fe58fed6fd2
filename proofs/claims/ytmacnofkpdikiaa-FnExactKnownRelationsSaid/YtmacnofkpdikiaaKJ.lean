/- find, and KnownRelations of the program. -/
import Derived.Test.YtmacnofkpdikiaaKI
namespace Go.Proofs.Ytmacnofkpdikiaa
open Go.RowKit
set_option linter.unusedVariables false
set_option linter.unusedSimpArgs false
theorem results_cell_tmp {P : Program} {fn : Func} {p q : Tmp} {ty : TypeId} (h : fn.results = #[.cell p ty, .tmp q]) (tmps : Array Value) (w : World) (g : Nat) (t : TypeId) (cs : Array Value) (fr : Nat × Nat) (d : TypeDesc)
    (hp : tmps.getD p undef = .pointer (some ⟨g, 0, none⟩)) (hg : w.heap[g]? = some (.cells cs t fr))
    (hu : P.underlying ty = some d) (hd : (match d with | .struct _ | .array _ _ => true | _ => false) = true) (hi : (P.info? ty).map (·.size) = some cs.size) :
    (results fn tmps).run P w = .ok (.tuple #[.agg cs, tmps.getD q undef]) w := by
  have hp' : tmps[p]?.getD undef = .pointer (some ⟨g, 0, none⟩) := by simpa using hp
  simp [results, h, hp', asAddr, run_loadVar_row w g t ty cs fr d hg hu hd hi]
theorem idx_kno {s : ByteArray} (h : kno s < 8) : idxN (fun i => kn i == s.toList) 8 = (kno s : Int) := by
  have h' : (s.toList == kn (kno s)) = true := by
    have := List.findIdx_getElem (p := fun i => s.toList == kn i) (xs := List.range 8) (w := by simpa [kno] using h)
    simpa [kno] using this
  have e : s.toList = kn (kno s) := by simpa using h'
  refine idxN_hit h (by simp [e]) (fun j hj => ?_)
  cases hh : kn j == s.toList
  · rfl
  · exact absurd (kno_of (s := s) (i := j) (by omega) (by simpa using (by simpa using hh : kn j = s.toList).symm)) (by omega)
theorem idx_none {s : ByteArray} (h : ¬ kno s < 8) : idxN (fun i => kn i == s.toList) 8 = -1 := by
  refine idxN_none (fun j hj => ?_)
  cases hh : kn j == s.toList
  · rfl
  · exact absurd (kno_of (s := s) (i := j) hj (by simpa using (by simpa using hh : kn j = s.toList).symm)) (by omega)

theorem OwnS.setOld {w : World} {C : Nat} {v : Value} {xs : List ByteArray} (h : OwnS w C v xs) {b : Nat} (hb : b < C) (i : Nat) (u : Value) : OwnS (w.setCell ⟨b, i, none⟩ u) C v xs := by
  refine ⟨h.1, ?_⟩
  rcases h.2 with hn | ⟨g, cap, cur, hv, h1, h2, rest⟩
  · exact .inl hn
  · exact .inr ⟨g, cap, cur, hv, h1, (heap_setCell_other w ⟨b, i, none⟩ g u (by show g ≠ b; omega)).trans h2, rest⟩

set_option maxRecDepth 100000 in
set_option maxHeartbeats 4000000 in
theorem find_any (s : ByteArray) (w : World) : Calls Try.prog 59 #[.string s] w fun e w' => ∃ x y a l c, e = .returned (.tuple #[.agg #[.string x, .string y, .slice a l c], .bool (decide (kno s < 8))]) ∧ Below w.heap.size w w' ∧ (kno s < 8 → OwnS w' w.heap.size (.slice a l c) (kr (kno s))) := by
  go_enter Try.func59, Try.ntmps59
  go_wp2_with fail
  have hs0 : ((w.alloc (.cells #[.string s] 9)).alloc (.cells #[.string ⟨#[]⟩, .string ⟨#[]⟩, .slice none 0 0] 74)).cell? ⟨w.heap.size, 0, none⟩ = some (.string s) :=
    (World.cell?_of_block (a := ⟨w.heap.size, 0, none⟩) (Below.heap_alloc _ _ _ (by simp))).trans ((Blk.new w #[.string s] 9).cell' (i := 0) rfl)
  have hZ0 : Blk ((w.alloc (.cells #[.string s] 9)).alloc (.cells #[.string ⟨#[]⟩, .string ⟨#[]⟩, .slice none 0 0] 74)) (w.heap.size + 1) [.string ⟨#[]⟩, .string ⟨#[]⟩, .slice none 0 0] 74 := by
    have := Blk.new (w.alloc (.cells #[.string s] 9)) #[.string ⟨#[]⟩, .string ⟨#[]⟩, .slice none 0 0] 74
    rwa [World.size_alloc] at this
  have hb0 : Below w.heap.size w ((w.alloc (.cells #[.string s] 9)).alloc (.cells #[.string ⟨#[]⟩, .string ⟨#[]⟩, .slice none 0 0] 74)) := ((Below.refl _ _).alloc (Nat.le_refl _) _).alloc (by simp) _
  refine (knownOnes_any _).mono ?_
  generalize ((w.alloc (.cells #[.string s] 9)).alloc (.cells #[.string ⟨#[]⟩, .string ⟨#[]⟩, .slice none 0 0] 74)) = w0 at *
  rintro e w1 ⟨g, rfl, hb1, hg, hg1, hR, hO⟩
  have hs1 := (hb1.cell (p := ⟨w.heap.size, 0, none⟩) (World.block_lt_of_cell? _ _ hs0)).trans hs0
  have hZ1 := hZ0.keep hb1
  have hbb1 := hb0.trans (hb1.mono hb0.size)
  have HR := Lib.hid hR
  have HO := Lib.hid hO
  have HF : Hid (Calls Try.prog 100 #[.slice (some ⟨g, 0, none⟩) 8 8, .func (.func 101) #[] #[.pointer (some ⟨w.heap.size, 0, none⟩)]] w1 (Ret (.int .i64 (idxN (fun i => kn i == s.toList) 8)) w1)) :=
    indexFuncK_any 101 enters_find1 #[.pointer (some ⟨w.heap.size, 0, none⟩)] g 8 8 (by omega) (kRow w0.heap.size) (fun i => rfl) (fun i => kn i == s.toList) w1 hR
      (fun W hW i hi => find1_any w0.heap.size i w.heap.size s W ((hW.cell (p := ⟨w.heap.size, 0, none⟩) (World.block_lt_of_cell? _ _ hs1)).trans hs1))
  have hgn : w.heap.size ≤ w0.heap.size := hb0.size
  have HGN : Hid (w.heap.size + 1 < w0.heap.size) := hZ0.lt
  clear hR hO hs0 hZ0 hs1
  go_wp2_with fail
  refine HF.out.mono ?_
  rintro e w2 ⟨rfl, hb2⟩
  have hZ2 := hZ1.keep hb2
  have hbb2 := hbb1.trans (hb2.mono hbb1.size)
  clear HF
  by_cases hk : kno s < 8
  · rw [idx_kno hk]
    obtain ⟨q, hq⟩ : ∃ q, q = kno s := ⟨_, rfl⟩
    rw [← hq] at hk ⊢
    have hr := HR.out q hk
    have hr2 : w2.rangeAt g (q * 3) (kRow w0.heap.size q) := fun i v hi => by
      have h := hr i v hi
      exact (hb2.cell (p := ⟨g, q * 3 + i, none⟩) (World.block_lt_of_cell? w1 _ h)).trans h
    have HOq := Lib.hid ((HO.out q hk).below hb2)
    obtain ⟨a, l, c, hsl⟩ : ∃ a l c, ks w0.heap.size q = .slice a l c := by unfold ks; split <;> exact ⟨_, _, _, rfl⟩
    have i1 : ¬ (q : Int) < 0 := by omega
    have i2 : (0 : Int) ≤ (q : Int) := by omega
    have i3 : (q : Int) < 8 := by omega
    rw [kRow, hsl] at hr2
    have HQ := Lib.hid hq
    obtain ⟨X, hX⟩ : ∃ X, X = (⟨(kn q).toArray⟩ : ByteArray) := ⟨_, rfl⟩
    obtain ⟨Y, hY⟩ : ∃ Y, Y = kt q := ⟨_, rfl⟩
    rw [← hX, ← hY] at hr2
    have f0 : w2.cell? ⟨g, q * 3, none⟩ = some (.string X) := hr2 0 _ rfl
    have f1 : w2.cell? ⟨g, q * 3 + 1, none⟩ = some (.string Y) := hr2 1 _ rfl
    have f2 : w2.cell? ⟨g, q * 3 + 2, none⟩ = some (.slice a l c) := hr2 2 _ rfl
    have z0 := hZ2.cell' (i := 0) rfl
    have z1 := hZ2.cell' (i := 1) rfl
    have z2 := hZ2.cell' (i := 2) rfl
    have y0 := hZ2.free 0
    have y1 := hZ2.free 1
    have y2 := hZ2.free 2
    have HZ := Lib.hid hZ2
    rw [hsl] at HOq
    have HBB := Lib.hid hbb2
    clear hX hY hsl hq hr HO HR hr2 hZ1 hZ2
    go_wp2_with fail
    have hfin := ((HZ.out.setCell 0 (Value.string X)).setCell 1 (Value.string Y)).setCell 2 (Value.slice a l c)
    have hbe := ((HBB.out.setCell (p := ⟨w.heap.size + 1, 0, none⟩) (by simp) (Value.string X)).setCell (p := ⟨w.heap.size + 1, 1, none⟩) (by simp) (Value.string Y)).setCell (p := ⟨w.heap.size + 1, 2, none⟩) (by simp) (Value.slice a l c)
    refine bodyPost_ret (v := .tuple #[.agg #[Value.string X, Value.string Y, Value.slice a l c], .bool true]) (results_cell_tmp Try.results59 _ _ (w.heap.size + 1) 74 #[Value.string X, Value.string Y, Value.slice a l c] (0, 0) (.struct _) rfl hfin Try.underlying74 rfl (by kernel_rfl)) rfl ?_
    refine ⟨X, Y, a, l, c, by rw [← HQ.out, decide_eq_true hk], hbe, fun _ => ?_⟩
    rw [← HQ.out]
    exact (((HOq.out.setOld HGN.out 0 _).setOld HGN.out 1 _).setOld HGN.out 2 _).less hgn
  · rw [idx_none hk]
    have HK := Lib.hid hk
    have z0 := hZ2.cell' (i := 0) rfl
    have z1 := hZ2.cell' (i := 1) rfl
    have z2 := hZ2.cell' (i := 2) rfl
    have y0 := hZ2.free 0
    have y1 := hZ2.free 1
    have y2 := hZ2.free 2
    have HZ := Lib.hid hZ2
    have HBB := Lib.hid hbb2
    clear hk HO HR hZ1 hZ2
    go_wp2_with fail
    have hfin := ((HZ.out.setCell 0 (Value.string ⟨#[]⟩)).setCell 1 (Value.string ⟨#[]⟩)).setCell 2 (Value.slice none 0 0)
    have hbe := ((HBB.out.setCell (p := ⟨w.heap.size + 1, 0, none⟩) (by simp) (Value.string ⟨#[]⟩)).setCell (p := ⟨w.heap.size + 1, 1, none⟩) (by simp) (Value.string ⟨#[]⟩)).setCell (p := ⟨w.heap.size + 1, 2, none⟩) (by simp) (Value.slice none 0 0)
    refine bodyPost_ret (v := .tuple #[.agg #[Value.string ⟨#[]⟩, Value.string ⟨#[]⟩, Value.slice none 0 0], .bool false]) (results_cell_tmp Try.results59 _ _ (w.heap.size + 1) 74 #[Value.string ⟨#[]⟩, Value.string ⟨#[]⟩, Value.slice none 0 0] (0, 0) (.struct _) rfl hfin Try.underlying74 rfl (by kernel_rfl)) rfl ?_
    exact ⟨_, _, _, _, _, by rw [decide_eq_false HK.out], hbe, fun h => absurd h HK.out⟩

set_option maxRecDepth 100000 in
set_option maxHeartbeats 4000000 in
theorem implKnownRelations_any (s : ByteArray) (w : World) : Calls Try.prog 18 #[.string s] w (RetS (krL s) (krC s) w) := by
  go_enter Try.func18, Try.ntmps18
  go_wp2_with fail
  refine (find_any s _).mono ?_
  rintro e w1 ⟨x, y, a, l, c, rfl, hb1, hO⟩
  by_cases hk : kno s < 8
  · have HO := Lib.hid (hO hk)
    have HKL : Hid (krL s = kr (kno s)) := rfl
    have HKC : Hid (krC s = 0) := by show _ = _; rw [krC, if_pos hk]
    rw [decide_eq_true hk]
    clear hO hk
    generalize kr (kno s) = L at *
    go_wp2_with fail
    go_ret2
    rw [HKL.out, HKC.out]
    exact ⟨_, rfl, hb1.alloc hb1.size _, HO.out.below (below1 _ _)⟩
  · have HKL : Hid (krL s = []) := by
      show kr (kno s) = []
      unfold kr
      split <;> first | rfl | omega
    have HKC : Hid (krC s = 4) := by show _ = _; rw [krC, if_neg hk]
    rw [decide_eq_false hk]
    clear hO hk
    go_wp2_with fail
    go_ret2
    rw [HKL.out, HKC.out]
    exact ⟨_, rfl, hb1.alloc hb1.size _, OwnS.nil _ _⟩
end Go.Proofs.Ytmacnofkpdikiaa
