/- drift: Step and Before at the bay's examples. -/
import Derived.Test.YtnbdnnbeiohmgaaDnBackC
namespace Go.Proofs.Ytnbdnnbeiohmgaa
open Go.RowKit Go.Shelf Go.Lib Go.Maps
attribute [local go_sem] Oper.semAt_some

theorem afl_none : Afloat [] := ⟨by decide +kernel, by decide +kernel, by decide +kernel, by decide +kernel⟩
theorem fin_ok : checkRs 5 5 100 landB [[(1, 4, 5)]] = true := by decide +kernel
theorem fin_ok2 : checkRs 5 5 100 landB [[(1, 4, 5)], landB] = true := by decide +kernel
theorem fin_one : ∀ y, y < 256 → (bothF 5 5 ([(1, 4, 5)].length + landB.length) [(1, 4, 5)] landB (fun _ => []) y).length ≤ 1 := by decide +kernel
theorem fin_both : rowsR (bothF 5 5 ([(1, 4, 5)].length + landB.length) [(1, 4, 5)] landB fun _ => []) 256 = [(1, 4, 5)] := by decide +kernel

set_option maxRecDepth 100000 in
set_option maxHeartbeats 8000000 in
/-- CheckPatch: a cell of land cannot be afloat -/
theorem checkPatch_bad (L A1 : Option Addr) (lc c1 : Nat) (w : World) (hL : Runs w (.slice L 5 lc) landB) (h1 : Runs w (.slice A1 1 c1) [(1, 4, 5)]) :
    Calls Try.prog 98 #[.agg #[.int .i64 5, .int .i64 5, .int .i64 100, .slice L 5 lc], .agg #[.int .i64 0, .slice A1 1 c1, .slice none 0 0, .slice none 0 0, .bool false]] w fun e w' => e = .returned (.int .i64 2) ∧ Below w.heap.size w w' := by
  have HL_0 := Lib.hid hL
  have H1_0 := Lib.hid h1
  have BB0 := Lib.hid (Below.refl w.heap.size w)
  clear hL h1
  go_enter Try.func98, Try.ntmps98
  go_upto_region 1 with fail
  obtain ⟨Z, hZ⟩ : ∃ Z, w.heap.size = Z := ⟨_, rfl⟩
  obtain ⟨w1, hw1⟩ : ∃ Z, ((w.alloc (.cells #[.int .i64 5, .int .i64 5, .int .i64 100, .slice L 5 lc] 24)).alloc (.cells #[.int .i64 0, .slice A1 1 c1, .slice none 0 0, .slice none 0 0, .bool false] 89)) = Z := ⟨_, rfl⟩
  have k1 : Below w.heap.size w w1 := by rw [← hw1]; exact (((Below.refl _ _).alloc (Nat.le_refl _) _).alloc (by simp) _)
  have z1 : Z + 1 < w1.heap.size := by rw [← hw1, ← hZ]; simp
  have y1 : w.heap.size = Z := hZ
  have gb_1 : HasO w1 (Z) (.cells #[.int .i64 5, .int .i64 5, .int .i64 100, .slice L 5 lc] 24 (0, 0)) := by rw [← hw1, ← hZ]; have h := (HasO.alloc (HasO.new (w := w) (o := .cells #[.int .i64 5, .int .i64 5, .int .i64 100, .slice L 5 lc] 24) rfl) (.cells #[.int .i64 0, .slice A1 1 c1, .slice none 0 0, .slice none 0 0, .bool false] 89)); simpa only [World.size_alloc] using h
  have pat_1 : HasO w1 (Z + 1) (.cells #[.int .i64 0, .slice A1 1 c1, .slice none 0 0, .slice none 0 0, .bool false] 89 (0, 0)) := by rw [← hw1, ← hZ]; have h := (HasO.new (w := (w.alloc (.cells #[.int .i64 5, .int .i64 5, .int .i64 100, .slice L 5 lc] 24))) (o := .cells #[.int .i64 0, .slice A1 1 c1, .slice none 0 0, .slice none 0 0, .bool false] 89) rfl); simpa only [World.size_alloc] using h
  (try rw [hw1]); (try rw [hZ])
  clear hw1 hZ
  have S1 := k1.size
  have HL_1 := Lib.hid (HL_0.out.below k1)
  have H1_1 := Lib.hid (H1_0.out.below k1)
  have BB1 := Lib.hid (BB0.out.trans (k1.mono BB0.out.size))
  clear k1 HL_0 H1_0 BB0
  have gbH_1 := Lib.hid gb_1
  clear gb_1
  have patH_1 := Lib.hid pat_1
  clear pat_1
  have q1gb0 := HasO.cell (i := 0) gbH_1.out rfl
  have q1gb1 := HasO.cell (i := 1) gbH_1.out rfl
  have q1gb2 := HasO.cell (i := 2) gbH_1.out rfl
  have q1gb3 := HasO.cell (i := 3) gbH_1.out rfl
  have HCg := checkGrid_gr 5 5 100 (.slice L 5 lc) landB w1 HL_1.out
  rw [bay_grid, argE_true] at HCg
  have HC := Lib.hid HCg
  clear HCg
  go_wp2_with fail
  refine (HC.out).mono ?_
  rintro e w2 ⟨rfl, hb2⟩
  have k2 : Below w1.heap.size w1 w2 := hb2
  clear hb2
  have S2 := k2.size
  have HL_2 := Lib.hid (HL_1.out.below k2)
  have H1_2 := Lib.hid (H1_1.out.below k2)
  have gb_2 := Lib.hid (gbH_1.out.below k2)
  have pat_2 := Lib.hid (patH_1.out.below k2)
  have BB2 := Lib.hid (BB1.out.trans (k2.mono BB1.out.size))
  clear k2 HL_1 H1_1 gbH_1 patH_1 BB1
  clear HC
  clear q1gb0 q1gb1 q1gb2 q1gb3
  have q2pat0 := HasO.cell (i := 0) pat_2.out rfl
  have q2pat1 := HasO.cell (i := 1) pat_2.out rfl
  have q2pat2 := HasO.cell (i := 2) pat_2.out rfl
  have q2pat3 := HasO.cell (i := 3) pat_2.out rfl
  have q2pat4 := HasO.cell (i := 4) pat_2.out rfl
  go_wp2_with fail
  refine (within_dn _ _ _ _).mono ?_
  rintro e wz ⟨rfl, rfl⟩
  rw [show inB 0 0 1073741824 = true by decide]
  go_wp2_with fail
  refine (of_dn 0 false A1 none none 1 0 0 c1 0 0 _).mono ?_
  rintro e w3 ⟨rfl, hb3⟩
  have k3 : Below w2.heap.size w2 w3 := hb3
  clear hb3
  have S3 := k3.size
  have HL_3 := Lib.hid (HL_2.out.below k3)
  have H1_3 := Lib.hid (H1_2.out.below k3)
  have gb_3 := Lib.hid (gb_2.out.below k3)
  have pat_3 := Lib.hid (pat_2.out.below k3)
  have BB3 := Lib.hid (BB2.out.trans (k3.mono BB2.out.size))
  clear k3 HL_2 H1_2 gb_2 pat_2 BB2
  clear q2pat0 q2pat1 q2pat2 q2pat3 q2pat4
  go_wp2_with fail
  refine wp_loop_rounds 4 ?_
  rw [rounds_succ]
  have hi := index_reg0 A1 none none 1 0 0 c1 0 0 w3
  have hchk := checkRegion_gr 5 5 100 (.slice L 5 lc) A1 1 c1 landB [(1, 4, 5)] w3 HL_3.out H1_3.out
  rw [fin_ok, argE_true] at hchk
  have HQ := Lib.hid hchk
  clear hchk
  have q3gb0 := HasO.cell (i := 0) gb_3.out rfl
  have q3gb1 := HasO.cell (i := 1) gb_3.out rfl
  have q3gb2 := HasO.cell (i := 2) gb_3.out rfl
  have q3gb3 := HasO.cell (i := 3) gb_3.out rfl
  go_wp2_with fail
  refine (HQ.out).mono ?_
  rintro e w4 ⟨rfl, hb4⟩
  have k4 : Below w3.heap.size w3 w4 := hb4
  clear hb4
  have S4 := k4.size
  have HL_4 := Lib.hid (HL_3.out.below k4)
  have H1_4 := Lib.hid (H1_3.out.below k4)
  have gb_4 := Lib.hid (gb_3.out.below k4)
  have pat_4 := Lib.hid (pat_3.out.below k4)
  have BB4 := Lib.hid (BB3.out.trans (k4.mono BB3.out.size))
  clear k4 HL_3 H1_3 gb_3 pat_3 BB3
  clear HQ hi
  clear q3gb0 q3gb1 q3gb2 q3gb3
  have q4gb0 := HasO.cell (i := 0) gb_4.out rfl
  have q4gb1 := HasO.cell (i := 1) gb_4.out rfl
  have q4gb2 := HasO.cell (i := 2) gb_4.out rfl
  have q4gb3 := HasO.cell (i := 3) gb_4.out rfl
  go_wp2_with fail
  refine (both_c L A1 L lc 1 5 c1 lc [(1, 4, 5)] landB [(1, 4, 5)] _ HL_4.out H1_4.out HL_4.out fin_ok2 fin_one fin_both (by decide)).mono ?_
  rintro e w5 ⟨⟨CC, cc, rfl, -⟩, hb5⟩
  have k5 : Below w4.heap.size w4 w5 := hb5
  clear hb5
  have S5 := k5.size
  have HL_5 := Lib.hid (HL_4.out.below k5)
  have H1_5 := Lib.hid (H1_4.out.below k5)
  have gb_5 := Lib.hid (gb_4.out.below k5)
  have pat_5 := Lib.hid (pat_4.out.below k5)
  have BB5 := Lib.hid (BB4.out.trans (k5.mono BB4.out.size))
  clear k5 HL_4 H1_4 gb_4 pat_4 BB4
  clear q4gb0 q4gb1 q4gb2 q4gb3
  go_wp2_with fail
  go_ret
  exact ⟨rfl, BB5.out⟩

set_option maxRecDepth 100000 in
set_option maxHeartbeats 8000000 in
theorem before_early (L A1 : Option Addr) (lc b1 b2 c1 : Nat) (w : World) :
    Calls Try.prog 100 #[.agg #[.int .i64 5, .int .i64 5, .int .i64 100, .slice L 5 lc, .slice (some ⟨b1, 0, none⟩) 1 1, .slice (some ⟨b2, 0, none⟩) 1 1, .int .i64 20, .int .i64 20, .int .i64 10, .int .i64 20, .bool false], .agg #[.int .i64 999, .slice A1 1 c1, .slice none 0 0, .slice none 0 0, .bool false], .int .i64 1000] w fun e w' => e = .returned (.tuple #[.agg #[.int .i64 0, .slice none 0 0, .slice none 0 0, .slice none 0 0, .bool false], .int .i64 4]) ∧ Below w.heap.size w w' := by
  have BB0 := Lib.hid (Below.refl w.heap.size w)
  go_enter Try.func100, Try.ntmps100
  go_upto_region 1 with fail
  obtain ⟨Z, hZ⟩ : ∃ Z, w.heap.size = Z := ⟨_, rfl⟩
  obtain ⟨w1, hw1⟩ : ∃ Z, (((w.alloc (.cells #[.int .i64 5, .int .i64 5, .int .i64 100, .slice L 5 lc, .slice (some ⟨b1, 0, none⟩) 1 1, .slice (some ⟨b2, 0, none⟩) 1 1, .int .i64 20, .int .i64 20, .int .i64 10, .int .i64 20, .bool false] 165)).alloc (.cells #[.int .i64 999, .slice A1 1 c1, .slice none 0 0, .slice none 0 0, .bool false] 89)).alloc (.cells #[.int .i64 0, .slice none 0 0, .slice none 0 0, .slice none 0 0, .bool false] 89)) = Z := ⟨_, rfl⟩
  have k1 : Below w.heap.size w w1 := by rw [← hw1]; exact ((((Below.refl _ _).alloc (Nat.le_refl _) _).alloc (by simp) _).alloc (by simp; omega) _)
  have z1 : Z + 1 + 1 < w1.heap.size := by rw [← hw1, ← hZ]; simp
  have y1 : w.heap.size = Z := hZ
  have sea_1 : HasO w1 (Z) (.cells #[.int .i64 5, .int .i64 5, .int .i64 100, .slice L 5 lc, .slice (some ⟨b1, 0, none⟩) 1 1, .slice (some ⟨b2, 0, none⟩) 1 1, .int .i64 20, .int .i64 20, .int .i64 10, .int .i64 20, .bool false] 165 (0, 0)) := by rw [← hw1, ← hZ]; have h := (HasO.alloc (HasO.alloc (HasO.new (w := w) (o := .cells #[.int .i64 5, .int .i64 5, .int .i64 100, .slice L 5 lc, .slice (some ⟨b1, 0, none⟩) 1 1, .slice (some ⟨b2, 0, none⟩) 1 1, .int .i64 20, .int .i64 20, .int .i64 10, .int .i64 20, .bool false] 165) rfl) (.cells #[.int .i64 999, .slice A1 1 c1, .slice none 0 0, .slice none 0 0, .bool false] 89)) (.cells #[.int .i64 0, .slice none 0 0, .slice none 0 0, .slice none 0 0, .bool false] 89)); simpa only [World.size_alloc] using h
  have pat_1 : HasO w1 (Z + 1) (.cells #[.int .i64 999, .slice A1 1 c1, .slice none 0 0, .slice none 0 0, .bool false] 89 (0, 0)) := by rw [← hw1, ← hZ]; have h := (HasO.alloc (HasO.new (w := (w.alloc (.cells #[.int .i64 5, .int .i64 5, .int .i64 100, .slice L 5 lc, .slice (some ⟨b1, 0, none⟩) 1 1, .slice (some ⟨b2, 0, none⟩) 1 1, .int .i64 20, .int .i64 20, .int .i64 10, .int .i64 20, .bool false] 165))) (o := .cells #[.int .i64 999, .slice A1 1 c1, .slice none 0 0, .slice none 0 0, .bool false] 89) rfl) (.cells #[.int .i64 0, .slice none 0 0, .slice none 0 0, .slice none 0 0, .bool false] 89)); simpa only [World.size_alloc] using h
  have res_1 : HasO w1 (Z + 1 + 1) (.cells #[.int .i64 0, .slice none 0 0, .slice none 0 0, .slice none 0 0, .bool false] 89 (0, 0)) := by rw [← hw1, ← hZ]; have h := (HasO.new (w := ((w.alloc (.cells #[.int .i64 5, .int .i64 5, .int .i64 100, .slice L 5 lc, .slice (some ⟨b1, 0, none⟩) 1 1, .slice (some ⟨b2, 0, none⟩) 1 1, .int .i64 20, .int .i64 20, .int .i64 10, .int .i64 20, .bool false] 165)).alloc (.cells #[.int .i64 999, .slice A1 1 c1, .slice none 0 0, .slice none 0 0, .bool false] 89))) (o := .cells #[.int .i64 0, .slice none 0 0, .slice none 0 0, .slice none 0 0, .bool false] 89) rfl); simpa only [World.size_alloc] using h
  (try rw [hw1]); (try rw [hZ])
  clear hw1 hZ
  have S1 := k1.size
  have BB1 := Lib.hid (BB0.out.trans (k1.mono BB0.out.size))
  clear k1 BB0
  have seaH_1 := Lib.hid sea_1
  clear sea_1
  have patH_1 := Lib.hid pat_1
  clear pat_1
  have resH_1 := Lib.hid res_1
  clear res_1
  have q1pat0 := HasO.cell (i := 0) patH_1.out rfl
  have q1res0 := HasO.cell (i := 0) resH_1.out rfl
  have q1resf0 := HasO.frozen (i := 0) resH_1.out
  have q1res1 := HasO.cell (i := 1) resH_1.out rfl
  have q1resf1 := HasO.frozen (i := 1) resH_1.out
  have q1res2 := HasO.cell (i := 2) resH_1.out rfl
  have q1resf2 := HasO.frozen (i := 2) resH_1.out
  have q1res3 := HasO.cell (i := 3) resH_1.out rfl
  have q1resf3 := HasO.frozen (i := 3) resH_1.out
  have q1res4 := HasO.cell (i := 4) resH_1.out rfl
  have q1resf4 := HasO.frozen (i := 4) resH_1.out
  go_wp2_with fail
  have X5 : Xm (Z + 1 + 1) w1 (((((w1.setCell ⟨Z + 1 + 1, 0, none⟩ (.int .i64 0)).setCell ⟨Z + 1 + 1, 1, none⟩ (.slice none 0 0)).setCell ⟨Z + 1 + 1, 2, none⟩ (.slice none 0 0)).setCell ⟨Z + 1 + 1, 3, none⟩ (.slice none 0 0)).setCell ⟨Z + 1 + 1, 4, none⟩ (.bool false)) := ((((((Xm.refl (Z + 1 + 1) w1).trans (Xm.set w1 (.int .i64 0))).trans (Xm.set (w1.setCell ⟨Z + 1 + 1, 0, none⟩ (.int .i64 0)) (.slice none 0 0))).trans (Xm.set ((w1.setCell ⟨Z + 1 + 1, 0, none⟩ (.int .i64 0)).setCell ⟨Z + 1 + 1, 1, none⟩ (.slice none 0 0)) (.slice none 0 0))).trans (Xm.set (((w1.setCell ⟨Z + 1 + 1, 0, none⟩ (.int .i64 0)).setCell ⟨Z + 1 + 1, 1, none⟩ (.slice none 0 0)).setCell ⟨Z + 1 + 1, 2, none⟩ (.slice none 0 0)) (.slice none 0 0))).trans (Xm.set ((((w1.setCell ⟨Z + 1 + 1, 0, none⟩ (.int .i64 0)).setCell ⟨Z + 1 + 1, 1, none⟩ (.slice none 0 0)).setCell ⟨Z + 1 + 1, 2, none⟩ (.slice none 0 0)).setCell ⟨Z + 1 + 1, 3, none⟩ (.slice none 0 0)) (.bool false)))
  have H5 : HasO (((((w1.setCell ⟨Z + 1 + 1, 0, none⟩ (.int .i64 0)).setCell ⟨Z + 1 + 1, 1, none⟩ (.slice none 0 0)).setCell ⟨Z + 1 + 1, 2, none⟩ (.slice none 0 0)).setCell ⟨Z + 1 + 1, 3, none⟩ (.slice none 0 0)).setCell ⟨Z + 1 + 1, 4, none⟩ (.bool false)) (Z + 1 + 1) (.cells #[.int .i64 0, .slice none 0 0, .slice none 0 0, .slice none 0 0, .bool false] 89 (0, 0)) := (HasO.set (i := 4) (v := .bool false) (HasO.set (i := 3) (v := .slice none 0 0) (HasO.set (i := 2) (v := .slice none 0 0) (HasO.set (i := 1) (v := .slice none 0 0) (HasO.set (i := 0) (v := .int .i64 0) resH_1.out)))))
  generalize (((((w1.setCell ⟨Z + 1 + 1, 0, none⟩ (.int .i64 0)).setCell ⟨Z + 1 + 1, 1, none⟩ (.slice none 0 0)).setCell ⟨Z + 1 + 1, 2, none⟩ (.slice none 0 0)).setCell ⟨Z + 1 + 1, 3, none⟩ (.slice none 0 0)).setCell ⟨Z + 1 + 1, 4, none⟩ (.bool false)) = W5 at X5 H5 ⊢
  have f0 := HasO.cell (i := 0) H5 rfl
  have f1 := HasO.cell (i := 1) H5 rfl
  have f2 := HasO.cell (i := 2) H5 rfl
  have f3 := HasO.cell (i := 3) H5 rfl
  have f4 := HasO.cell (i := 4) H5 rfl
  refine bodyPost_ret (v := .tuple #[.agg #[.int .i64 0, .slice none 0 0, .slice none 0 0, .slice none 0 0, .bool false], .int .i64 4]) (by simp [results, Try.results100, go_sem, f0, f1, f2, f3, f4]) rfl ?_
  exact ⟨rfl, BB1.out.trans (X5.below (B := w.heap.size) (by omega) (by omega))⟩

theorem fin_l0 : refR (Sift (Plus (fun _ _ => false) (cellsL [(1, 2, 3), (2, 2, 3)])) LandS false) 5 5 = [(1, 2, 3), (2, 2, 3)] := by decide +kernel
theorem fin_n : refR (Sift (fun _ _ => false) LandS false) 5 5 = [] := by decide +kernel
theorem fin_l2 : refR (Sift (Plus (Plus (fun _ _ => false) (cellsL [])) (cellsL [(1, 1, 3), (2, 1, 3)])) LandS true) 5 5 = [] := by decide +kernel
theorem fin_r1 : refR (Sift (Plus (fun _ _ => false) (cellsL [(0, 4, 5), (1, 4, 5)])) LandS false) 5 5 = [] := by decide +kernel
theorem fin_r2 : refR (Sift (Plus (Plus (fun _ _ => false) (cellsL [])) (cellsL [(0, 3, 5), (1, 3, 5)])) LandS true) 5 5 = [(0, 4, 5), (1, 4, 5)] := by decide +kernel
theorem step_left (L A A1 : Option Addr) (lc b1 b2 ca c1 : Nat) (w : World) (hB : Bay w L lc b1 b2 A ca) (h1 : Runs w (.slice A1 1 c1) [(1, 1, 2)]) :
    Calls Try.prog 99 #[.agg #[.int .i64 5, .int .i64 5, .int .i64 100, .slice L 5 lc, .slice (some ⟨b1, 0, none⟩) 1 1, .slice (some ⟨b2, 0, none⟩) 1 1, .int .i64 20, .int .i64 20, .int .i64 10, .int .i64 20, .bool false], .agg #[.int .i64 0, .slice A1 1 c1, .slice none 0 0, .slice none 0 0, .bool false], .int .i64 1000] w fun e w' => (∃ P0 P1 P2 k0 k1 k2 e0 e1 e2, e = .returned (.tuple #[.agg #[.int .i64 1000, .slice P0 k0 e0, .slice P1 k1 e1, .slice P2 k2 e2, .bool false], .int .i64 0]) ∧ Runs w' (.slice P0 k0 e0) [(1, 2, 3), (2, 2, 3)] ∧ Runs w' (.slice P1 k1 e1) [] ∧ Runs w' (.slice P2 k2 e2) []) ∧ Below w.heap.size w w' := by
  have h := step_l stepC_l L A1 none A lc b1 b2 ca c1 0 0 w hB h1 (Lst.nil _)
  rw [fin_l0, fin_n, fin_l2] at h
  exact h
theorem step_right (L A A1 : Option Addr) (lc b1 b2 ca c1 : Nat) (w : World) (hB : Bay w L lc b1 b2 A ca) (h1 : Runs w (.slice A1 1 c1) [(1, 3, 4)]) :
    Calls Try.prog 99 #[.agg #[.int .i64 5, .int .i64 5, .int .i64 100, .slice L 5 lc, .slice (some ⟨b1, 0, none⟩) 1 1, .slice (some ⟨b2, 0, none⟩) 1 1, .int .i64 20, .int .i64 20, .int .i64 10, .int .i64 20, .bool false], .agg #[.int .i64 0, .slice none 0 0, .slice A1 1 c1, .slice none 0 0, .bool false], .int .i64 1000] w fun e w' => (∃ P0 P1 P2 k0 k1 k2 e0 e1 e2, e = .returned (.tuple #[.agg #[.int .i64 1000, .slice P0 k0 e0, .slice P1 k1 e1, .slice P2 k2 e2, .bool false], .int .i64 0]) ∧ Runs w' (.slice P0 k0 e0) [] ∧ Runs w' (.slice P1 k1 e1) [] ∧ Runs w' (.slice P2 k2 e2) [(0, 4, 5), (1, 4, 5)]) ∧ Below w.heap.size w w' := by
  have h := step_r stepC_r L none A1 A lc b1 b2 ca 0 0 c1 w hB h1 (Lst.nil _)
  rw [fin_n, fin_r1, fin_r2] at h
  exact h

set_option maxRecDepth 100000 in
set_option maxHeartbeats 16000000 in
theorem Step_left (L A A1 : Option Addr) (lc b1 b2 ca c1 : Nat) (w : World) (hB : Bay w L lc b1 b2 A ca) (h1 : Runs w (.slice A1 1 c1) [(1, 1, 2)]) :
    Calls Try.prog 45 #[.agg #[.int .i64 5, .int .i64 5, .int .i64 100, .slice L 5 lc], .agg #[.slice (some ⟨b1, 0, none⟩) 1 1, .slice (some ⟨b2, 0, none⟩) 1 1], .agg #[.int .i64 20, .int .i64 20, .int .i64 10, .int .i64 20, .bool false], .agg #[.int .i64 0, .slice A1 1 c1, .slice none 0 0, .slice none 0 0, .bool false], .int .i64 1000] w fun e w' => (∃ P0 P1 P2 k0 k1 k2 e0 e1 e2, e = .returned (.tuple #[.agg #[.int .i64 1000, .slice P0 k0 e0, .slice P1 k1 e1, .slice P2 k2 e2, .bool false], .int .i64 0]) ∧ Runs w' (.slice P0 k0 e0) [(1, 2, 3), (2, 2, 3)] ∧ Runs w' (.slice P1 k1 e1) [] ∧ Runs w' (.slice P2 k2 e2) []) ∧ Below w.heap.size w w' := by
  have HB_0 := Lib.hid hB
  have H1_0 := Lib.hid h1
  have BB0 := Lib.hid (Below.refl w.heap.size w)
  clear hB h1
  go_enter Try.func45, Try.ntmps45
  go_upto_region 1 with fail
  obtain ⟨Z, hZ⟩ : ∃ Z, w.heap.size = Z := ⟨_, rfl⟩
  obtain ⟨w1, hw1⟩ : ∃ Z, (((((w.alloc (.cells #[.int .i64 5, .int .i64 5, .int .i64 100, .slice L 5 lc] 24)).alloc (.cells #[.slice (some ⟨b1, 0, none⟩) 1 1, .slice (some ⟨b2, 0, none⟩) 1 1] 80)).alloc (.cells #[.int .i64 20, .int .i64 20, .int .i64 10, .int .i64 20, .bool false] 82)).alloc (.cells #[.int .i64 0, .slice A1 1 c1, .slice none 0 0, .slice none 0 0, .bool false] 89)).alloc (.cells #[.int .i64 0, .slice none 0 0, .slice none 0 0, .slice none 0 0, .bool false] 89)) = Z := ⟨_, rfl⟩
  have k1 : Below w.heap.size w w1 := by rw [← hw1]; exact ((((((Below.refl _ _).alloc (Nat.le_refl _) _).alloc (by simp) _).alloc (by simp; omega) _).alloc (by simp; omega) _).alloc (by simp; omega) _)
  have z1 : Z + 1 + 1 + 1 + 1 < w1.heap.size := by rw [← hw1, ← hZ]; simp
  have y1 : w.heap.size = Z := hZ
  have gb_1 : HasO w1 (Z) (.cells #[.int .i64 5, .int .i64 5, .int .i64 100, .slice L 5 lc] 24 (0, 0)) := by rw [← hw1, ← hZ]; have h := (HasO.alloc (HasO.alloc (HasO.alloc (HasO.alloc (HasO.new (w := w) (o := .cells #[.int .i64 5, .int .i64 5, .int .i64 100, .slice L 5 lc] 24) rfl) (.cells #[.slice (some ⟨b1, 0, none⟩) 1 1, .slice (some ⟨b2, 0, none⟩) 1 1] 80)) (.cells #[.int .i64 20, .int .i64 20, .int .i64 10, .int .i64 20, .bool false] 82)) (.cells #[.int .i64 0, .slice A1 1 c1, .slice none 0 0, .slice none 0 0, .bool false] 89)) (.cells #[.int .i64 0, .slice none 0 0, .slice none 0 0, .slice none 0 0, .bool false] 89)); simpa only [World.size_alloc] using h
  have fb_1 : HasO w1 (Z + 1) (.cells #[.slice (some ⟨b1, 0, none⟩) 1 1, .slice (some ⟨b2, 0, none⟩) 1 1] 80 (0, 0)) := by rw [← hw1, ← hZ]; have h := (HasO.alloc (HasO.alloc (HasO.alloc (HasO.new (w := (w.alloc (.cells #[.int .i64 5, .int .i64 5, .int .i64 100, .slice L 5 lc] 24))) (o := .cells #[.slice (some ⟨b1, 0, none⟩) 1 1, .slice (some ⟨b2, 0, none⟩) 1 1] 80) rfl) (.cells #[.int .i64 20, .int .i64 20, .int .i64 10, .int .i64 20, .bool false] 82)) (.cells #[.int .i64 0, .slice A1 1 c1, .slice none 0 0, .slice none 0 0, .bool false] 89)) (.cells #[.int .i64 0, .slice none 0 0, .slice none 0 0, .slice none 0 0, .bool false] 89)); simpa only [World.size_alloc] using h
  have db_1 : HasO w1 (Z + 1 + 1) (.cells #[.int .i64 20, .int .i64 20, .int .i64 10, .int .i64 20, .bool false] 82 (0, 0)) := by rw [← hw1, ← hZ]; have h := (HasO.alloc (HasO.alloc (HasO.new (w := ((w.alloc (.cells #[.int .i64 5, .int .i64 5, .int .i64 100, .slice L 5 lc] 24)).alloc (.cells #[.slice (some ⟨b1, 0, none⟩) 1 1, .slice (some ⟨b2, 0, none⟩) 1 1] 80))) (o := .cells #[.int .i64 20, .int .i64 20, .int .i64 10, .int .i64 20, .bool false] 82) rfl) (.cells #[.int .i64 0, .slice A1 1 c1, .slice none 0 0, .slice none 0 0, .bool false] 89)) (.cells #[.int .i64 0, .slice none 0 0, .slice none 0 0, .slice none 0 0, .bool false] 89)); simpa only [World.size_alloc] using h
  have pat_1 : HasO w1 (Z + 1 + 1 + 1) (.cells #[.int .i64 0, .slice A1 1 c1, .slice none 0 0, .slice none 0 0, .bool false] 89 (0, 0)) := by rw [← hw1, ← hZ]; have h := (HasO.alloc (HasO.new (w := (((w.alloc (.cells #[.int .i64 5, .int .i64 5, .int .i64 100, .slice L 5 lc] 24)).alloc (.cells #[.slice (some ⟨b1, 0, none⟩) 1 1, .slice (some ⟨b2, 0, none⟩) 1 1] 80)).alloc (.cells #[.int .i64 20, .int .i64 20, .int .i64 10, .int .i64 20, .bool false] 82))) (o := .cells #[.int .i64 0, .slice A1 1 c1, .slice none 0 0, .slice none 0 0, .bool false] 89) rfl) (.cells #[.int .i64 0, .slice none 0 0, .slice none 0 0, .slice none 0 0, .bool false] 89)); simpa only [World.size_alloc] using h
  have res_1 : HasO w1 (Z + 1 + 1 + 1 + 1) (.cells #[.int .i64 0, .slice none 0 0, .slice none 0 0, .slice none 0 0, .bool false] 89 (0, 0)) := by rw [← hw1, ← hZ]; have h := (HasO.new (w := ((((w.alloc (.cells #[.int .i64 5, .int .i64 5, .int .i64 100, .slice L 5 lc] 24)).alloc (.cells #[.slice (some ⟨b1, 0, none⟩) 1 1, .slice (some ⟨b2, 0, none⟩) 1 1] 80)).alloc (.cells #[.int .i64 20, .int .i64 20, .int .i64 10, .int .i64 20, .bool false] 82)).alloc (.cells #[.int .i64 0, .slice A1 1 c1, .slice none 0 0, .slice none 0 0, .bool false] 89))) (o := .cells #[.int .i64 0, .slice none 0 0, .slice none 0 0, .slice none 0 0, .bool false] 89) rfl); simpa only [World.size_alloc] using h
  (try rw [hw1]); (try rw [hZ])
  clear hw1 hZ
  have S1 := k1.size
  have HB_1 := Lib.hid (HB_0.out.below k1)
  have H1_1 := Lib.hid (H1_0.out.below k1)
  have BB1 := Lib.hid (BB0.out.trans (k1.mono BB0.out.size))
  clear k1 HB_0 H1_0 BB0
  have gbH_1 := Lib.hid gb_1
  clear gb_1
  have fbH_1 := Lib.hid fb_1
  clear fb_1
  have dbH_1 := Lib.hid db_1
  clear db_1
  have patH_1 := Lib.hid pat_1
  clear pat_1
  have resH_1 := Lib.hid res_1
  clear res_1
  have q1gb0 := HasO.cell (i := 0) gbH_1.out rfl
  have q1gb1 := HasO.cell (i := 1) gbH_1.out rfl
  have q1gb2 := HasO.cell (i := 2) gbH_1.out rfl
  have q1gb3 := HasO.cell (i := 3) gbH_1.out rfl
  have q1fb0 := HasO.cell (i := 0) fbH_1.out rfl
  have q1fb1 := HasO.cell (i := 1) fbH_1.out rfl
  have q1db0 := HasO.cell (i := 0) dbH_1.out rfl
  have q1db1 := HasO.cell (i := 1) dbH_1.out rfl
  have q1db2 := HasO.cell (i := 2) dbH_1.out rfl
  have q1db3 := HasO.cell (i := 3) dbH_1.out rfl
  have q1db4 := HasO.cell (i := 4) dbH_1.out rfl
  go_upto_region 2 with fail
  clear q1gb0 q1gb1 q1gb2 q1gb3 q1fb0 q1fb1 q1db0 q1db1 q1db2 q1db3 q1db4
  obtain ⟨P, hP⟩ : ∃ Z, w1.heap.size = Z := ⟨_, rfl⟩
  obtain ⟨w2, hw2⟩ : ∃ Z, (w1.alloc (.cells #[.int .i64 5, .int .i64 5, .int .i64 100, .slice L 5 lc, .slice (some ⟨b1, 0, none⟩) 1 1, .slice (some ⟨b2, 0, none⟩) 1 1, .int .i64 20, .int .i64 20, .int .i64 10, .int .i64 20, .bool false] 165)) = Z := ⟨_, rfl⟩
  have k2 : Below w1.heap.size w1 w2 := by rw [← hw2]; exact ((Below.refl _ _).alloc (Nat.le_refl _) _)
  have z2 : P < w2.heap.size := by rw [← hw2, ← hP]; simp
  have y2 : w1.heap.size = P := hP
  have sea_2 : HasO w2 (P) (.cells #[.int .i64 5, .int .i64 5, .int .i64 100, .slice L 5 lc, .slice (some ⟨b1, 0, none⟩) 1 1, .slice (some ⟨b2, 0, none⟩) 1 1, .int .i64 20, .int .i64 20, .int .i64 10, .int .i64 20, .bool false] 165 (0, 0)) := by rw [← hw2, ← hP]; have h := (HasO.new (w := w1) (o := .cells #[.int .i64 5, .int .i64 5, .int .i64 100, .slice L 5 lc, .slice (some ⟨b1, 0, none⟩) 1 1, .slice (some ⟨b2, 0, none⟩) 1 1, .int .i64 20, .int .i64 20, .int .i64 10, .int .i64 20, .bool false] 165) rfl); simpa only [World.size_alloc] using h
  (try rw [hw2]); (try rw [hP])
  clear hw2 hP
  have S2 := k2.size
  have HB_2 := Lib.hid (HB_1.out.below k2)
  have H1_2 := Lib.hid (H1_1.out.below k2)
  have gb_2 := Lib.hid (gbH_1.out.below k2)
  have fb_2 := Lib.hid (fbH_1.out.below k2)
  have db_2 := Lib.hid (dbH_1.out.below k2)
  have pat_2 := Lib.hid (patH_1.out.below k2)
  have res_2 := Lib.hid (resH_1.out.below k2)
  have BB2 := Lib.hid (BB1.out.trans (k2.mono BB1.out.size))
  clear k2 HB_1 H1_1 gbH_1 fbH_1 dbH_1 patH_1 resH_1 BB1
  have seaH_2 := Lib.hid sea_2
  clear sea_2
  have q2sea0 := HasO.cell (i := 0) seaH_2.out rfl
  have q2sea1 := HasO.cell (i := 1) seaH_2.out rfl
  have q2sea2 := HasO.cell (i := 2) seaH_2.out rfl
  have q2sea3 := HasO.cell (i := 3) seaH_2.out rfl
  have q2sea4 := HasO.cell (i := 4) seaH_2.out rfl
  have q2sea5 := HasO.cell (i := 5) seaH_2.out rfl
  have q2sea6 := HasO.cell (i := 6) seaH_2.out rfl
  have q2sea7 := HasO.cell (i := 7) seaH_2.out rfl
  have q2sea8 := HasO.cell (i := 8) seaH_2.out rfl
  have q2sea9 := HasO.cell (i := 9) seaH_2.out rfl
  have q2sea10 := HasO.cell (i := 10) seaH_2.out rfl
  go_wp2_with fail
  refine (right_dn L A lc b1 b2 ca 1000 _ HB_2.out (by decide)).mono ?_
  rintro e w3 ⟨rfl, hb3⟩
  have k3 : Below w2.heap.size w2 w3 := hb3
  clear hb3
  have S3 := k3.size
  have HB_3 := Lib.hid (HB_2.out.below k3)
  have H1_3 := Lib.hid (H1_2.out.below k3)
  have gb_3 := Lib.hid (gb_2.out.below k3)
  have fb_3 := Lib.hid (fb_2.out.below k3)
  have db_3 := Lib.hid (db_2.out.below k3)
  have pat_3 := Lib.hid (pat_2.out.below k3)
  have res_3 := Lib.hid (res_2.out.below k3)
  have sea_3 := Lib.hid (seaH_2.out.below k3)
  have BB3 := Lib.hid (BB2.out.trans (k3.mono BB2.out.size))
  clear k3 HB_2 H1_2 gb_2 fb_2 db_2 pat_2 res_2 seaH_2 BB2
  clear q2sea0 q2sea1 q2sea2 q2sea3 q2sea4 q2sea5 q2sea6 q2sea7 q2sea8 q2sea9 q2sea10
  have q3gb0 := HasO.cell (i := 0) gb_3.out rfl
  have q3gb1 := HasO.cell (i := 1) gb_3.out rfl
  have q3gb2 := HasO.cell (i := 2) gb_3.out rfl
  have q3gb3 := HasO.cell (i := 3) gb_3.out rfl
  have q3pat0 := HasO.cell (i := 0) pat_3.out rfl
  have q3pat1 := HasO.cell (i := 1) pat_3.out rfl
  have q3pat2 := HasO.cell (i := 2) pat_3.out rfl
  have q3pat3 := HasO.cell (i := 3) pat_3.out rfl
  have q3pat4 := HasO.cell (i := 4) pat_3.out rfl
  go_wp2_with fail
  refine (checkPatch_dn 0 false L A1 none lc 1 0 c1 0 [(1, 1, 2)] [] _ HB_3.out.1 H1_3.out (Lst.nil _) (by decide) afl_a afl_n).mono ?_
  rintro e w4 ⟨rfl, hb4⟩
  have k4 : Below w3.heap.size w3 w4 := hb4
  clear hb4
  have S4 := k4.size
  have HB_4 := Lib.hid (HB_3.out.below k4)
  have H1_4 := Lib.hid (H1_3.out.below k4)
  have gb_4 := Lib.hid (gb_3.out.below k4)
  have fb_4 := Lib.hid (fb_3.out.below k4)
  have db_4 := Lib.hid (db_3.out.below k4)
  have pat_4 := Lib.hid (pat_3.out.below k4)
  have res_4 := Lib.hid (res_3.out.below k4)
  have sea_4 := Lib.hid (sea_3.out.below k4)
  have BB4 := Lib.hid (BB3.out.trans (k4.mono BB3.out.size))
  clear k4 HB_3 H1_3 gb_3 fb_3 db_3 pat_3 res_3 sea_3 BB3
  clear q3gb0 q3gb1 q3gb2 q3gb3 q3pat0 q3pat1 q3pat2 q3pat3 q3pat4
  have q4sea0 := HasO.cell (i := 0) sea_4.out rfl
  have q4sea1 := HasO.cell (i := 1) sea_4.out rfl
  have q4sea2 := HasO.cell (i := 2) sea_4.out rfl
  have q4sea3 := HasO.cell (i := 3) sea_4.out rfl
  have q4sea4 := HasO.cell (i := 4) sea_4.out rfl
  have q4sea5 := HasO.cell (i := 5) sea_4.out rfl
  have q4sea6 := HasO.cell (i := 6) sea_4.out rfl
  have q4sea7 := HasO.cell (i := 7) sea_4.out rfl
  have q4sea8 := HasO.cell (i := 8) sea_4.out rfl
  have q4sea9 := HasO.cell (i := 9) sea_4.out rfl
  have q4sea10 := HasO.cell (i := 10) sea_4.out rfl
  have q4pat0 := HasO.cell (i := 0) pat_4.out rfl
  have q4pat1 := HasO.cell (i := 1) pat_4.out rfl
  have q4pat2 := HasO.cell (i := 2) pat_4.out rfl
  have q4pat3 := HasO.cell (i := 3) pat_4.out rfl
  have q4pat4 := HasO.cell (i := 4) pat_4.out rfl
  go_wp2_with fail
  refine (step_left L A A1 lc b1 b2 ca c1 _ HB_4.out H1_4.out).mono ?_
  rintro e w5 ⟨⟨P0, P1, P2, k0, k1, k2, e0, e1, e2, rfl, hr0, hr1, hr2⟩, hb5⟩
  have k5 : Below w4.heap.size w4 w5 := hb5
  clear hb5
  have S5 := k5.size
  have HB_5 := Lib.hid (HB_4.out.below k5)
  have H1_5 := Lib.hid (H1_4.out.below k5)
  have gb_5 := Lib.hid (gb_4.out.below k5)
  have fb_5 := Lib.hid (fb_4.out.below k5)
  have db_5 := Lib.hid (db_4.out.below k5)
  have pat_5 := Lib.hid (pat_4.out.below k5)
  have res_5 := Lib.hid (res_4.out.below k5)
  have sea_5 := Lib.hid (sea_4.out.below k5)
  have BB5 := Lib.hid (BB4.out.trans (k5.mono BB4.out.size))
  clear k5 HB_4 H1_4 gb_4 fb_4 db_4 pat_4 res_4 sea_4 BB4
  clear q4sea0 q4sea1 q4sea2 q4sea3 q4sea4 q4sea5 q4sea6 q4sea7 q4sea8 q4sea9 q4sea10 q4pat0 q4pat1 q4pat2 q4pat3 q4pat4
  have r0_h5 := Lib.hid (hr0)
  have r1_h5 := Lib.hid (hr1)
  have r2_h5 := Lib.hid (hr2)
  clear hr0 hr1 hr2
  clear gb_5
  clear fb_5
  clear db_5
  clear pat_5
  clear sea_5
  have q5res0 := HasO.cell (i := 0) res_5.out rfl
  have q5resf0 := HasO.frozen (i := 0) res_5.out
  have q5res1 := HasO.cell (i := 1) res_5.out rfl
  have q5resf1 := HasO.frozen (i := 1) res_5.out
  have q5res2 := HasO.cell (i := 2) res_5.out rfl
  have q5resf2 := HasO.frozen (i := 2) res_5.out
  have q5res3 := HasO.cell (i := 3) res_5.out rfl
  have q5resf3 := HasO.frozen (i := 3) res_5.out
  have q5res4 := HasO.cell (i := 4) res_5.out rfl
  have q5resf4 := HasO.frozen (i := 4) res_5.out
  go_wp2_with fail
  have X5 : Xm (Z + 1 + 1 + 1 + 1) w5 (((((w5.setCell ⟨Z + 1 + 1 + 1 + 1, 0, none⟩ (.int .i64 1000)).setCell ⟨Z + 1 + 1 + 1 + 1, 1, none⟩ (.slice P0 k0 e0)).setCell ⟨Z + 1 + 1 + 1 + 1, 2, none⟩ (.slice P1 k1 e1)).setCell ⟨Z + 1 + 1 + 1 + 1, 3, none⟩ (.slice P2 k2 e2)).setCell ⟨Z + 1 + 1 + 1 + 1, 4, none⟩ (.bool false)) := ((((((Xm.refl (Z + 1 + 1 + 1 + 1) w5).trans (Xm.set w5 (.int .i64 1000))).trans (Xm.set (w5.setCell ⟨Z + 1 + 1 + 1 + 1, 0, none⟩ (.int .i64 1000)) (.slice P0 k0 e0))).trans (Xm.set ((w5.setCell ⟨Z + 1 + 1 + 1 + 1, 0, none⟩ (.int .i64 1000)).setCell ⟨Z + 1 + 1 + 1 + 1, 1, none⟩ (.slice P0 k0 e0)) (.slice P1 k1 e1))).trans (Xm.set (((w5.setCell ⟨Z + 1 + 1 + 1 + 1, 0, none⟩ (.int .i64 1000)).setCell ⟨Z + 1 + 1 + 1 + 1, 1, none⟩ (.slice P0 k0 e0)).setCell ⟨Z + 1 + 1 + 1 + 1, 2, none⟩ (.slice P1 k1 e1)) (.slice P2 k2 e2))).trans (Xm.set ((((w5.setCell ⟨Z + 1 + 1 + 1 + 1, 0, none⟩ (.int .i64 1000)).setCell ⟨Z + 1 + 1 + 1 + 1, 1, none⟩ (.slice P0 k0 e0)).setCell ⟨Z + 1 + 1 + 1 + 1, 2, none⟩ (.slice P1 k1 e1)).setCell ⟨Z + 1 + 1 + 1 + 1, 3, none⟩ (.slice P2 k2 e2)) (.bool false)))
  have H5 : HasO (((((w5.setCell ⟨Z + 1 + 1 + 1 + 1, 0, none⟩ (.int .i64 1000)).setCell ⟨Z + 1 + 1 + 1 + 1, 1, none⟩ (.slice P0 k0 e0)).setCell ⟨Z + 1 + 1 + 1 + 1, 2, none⟩ (.slice P1 k1 e1)).setCell ⟨Z + 1 + 1 + 1 + 1, 3, none⟩ (.slice P2 k2 e2)).setCell ⟨Z + 1 + 1 + 1 + 1, 4, none⟩ (.bool false)) (Z + 1 + 1 + 1 + 1) (.cells #[.int .i64 1000, .slice P0 k0 e0, .slice P1 k1 e1, .slice P2 k2 e2, .bool false] 89 (0, 0)) := (HasO.set (i := 4) (v := .bool false) (HasO.set (i := 3) (v := .slice P2 k2 e2) (HasO.set (i := 2) (v := .slice P1 k1 e1) (HasO.set (i := 1) (v := .slice P0 k0 e0) (HasO.set (i := 0) (v := .int .i64 1000) res_5.out)))))
  generalize (((((w5.setCell ⟨Z + 1 + 1 + 1 + 1, 0, none⟩ (.int .i64 1000)).setCell ⟨Z + 1 + 1 + 1 + 1, 1, none⟩ (.slice P0 k0 e0)).setCell ⟨Z + 1 + 1 + 1 + 1, 2, none⟩ (.slice P1 k1 e1)).setCell ⟨Z + 1 + 1 + 1 + 1, 3, none⟩ (.slice P2 k2 e2)).setCell ⟨Z + 1 + 1 + 1 + 1, 4, none⟩ (.bool false)) = W5 at X5 H5 ⊢
  have f0 := HasO.cell (i := 0) H5 rfl
  have f1 := HasO.cell (i := 1) H5 rfl
  have f2 := HasO.cell (i := 2) H5 rfl
  have f3 := HasO.cell (i := 3) H5 rfl
  have f4 := HasO.cell (i := 4) H5 rfl
  refine bodyPost_ret (v := .tuple #[.agg #[.int .i64 1000, .slice P0 k0 e0, .slice P1 k1 e1, .slice P2 k2 e2, .bool false], .int .i64 0]) (by simp [results, Try.results45, go_sem, f0, f1, f2, f3, f4]) rfl ?_
  exact ⟨⟨P0, P1, P2, k0, k1, k2, e0, e1, e2, rfl, Runs.xmPatch r0_h5.out res_5.out X5, Runs.xmPatch r1_h5.out res_5.out X5, Runs.xmPatch r2_h5.out res_5.out X5⟩, BB5.out.trans (X5.below (B := w.heap.size) (by omega) (by omega))⟩

set_option maxRecDepth 100000 in
set_option maxHeartbeats 16000000 in
theorem Step_right (L A A1 : Option Addr) (lc b1 b2 ca c1 : Nat) (w : World) (hB : Bay w L lc b1 b2 A ca) (h1 : Runs w (.slice A1 1 c1) [(1, 3, 4)]) :
    Calls Try.prog 45 #[.agg #[.int .i64 5, .int .i64 5, .int .i64 100, .slice L 5 lc], .agg #[.slice (some ⟨b1, 0, none⟩) 1 1, .slice (some ⟨b2, 0, none⟩) 1 1], .agg #[.int .i64 20, .int .i64 20, .int .i64 10, .int .i64 20, .bool false], .agg #[.int .i64 0, .slice none 0 0, .slice A1 1 c1, .slice none 0 0, .bool false], .int .i64 1000] w fun e w' => (∃ P0 P1 P2 k0 k1 k2 e0 e1 e2, e = .returned (.tuple #[.agg #[.int .i64 1000, .slice P0 k0 e0, .slice P1 k1 e1, .slice P2 k2 e2, .bool false], .int .i64 0]) ∧ Runs w' (.slice P0 k0 e0) [] ∧ Runs w' (.slice P1 k1 e1) [] ∧ Runs w' (.slice P2 k2 e2) [(0, 4, 5), (1, 4, 5)]) ∧ Below w.heap.size w w' := by
  have HB_0 := Lib.hid hB
  have H1_0 := Lib.hid h1
  have BB0 := Lib.hid (Below.refl w.heap.size w)
  clear hB h1
  go_enter Try.func45, Try.ntmps45
  go_upto_region 1 with fail
  obtain ⟨Z, hZ⟩ : ∃ Z, w.heap.size = Z := ⟨_, rfl⟩
  obtain ⟨w1, hw1⟩ : ∃ Z, (((((w.alloc (.cells #[.int .i64 5, .int .i64 5, .int .i64 100, .slice L 5 lc] 24)).alloc (.cells #[.slice (some ⟨b1, 0, none⟩) 1 1, .slice (some ⟨b2, 0, none⟩) 1 1] 80)).alloc (.cells #[.int .i64 20, .int .i64 20, .int .i64 10, .int .i64 20, .bool false] 82)).alloc (.cells #[.int .i64 0, .slice none 0 0, .slice A1 1 c1, .slice none 0 0, .bool false] 89)).alloc (.cells #[.int .i64 0, .slice none 0 0, .slice none 0 0, .slice none 0 0, .bool false] 89)) = Z := ⟨_, rfl⟩
  have k1 : Below w.heap.size w w1 := by rw [← hw1]; exact ((((((Below.refl _ _).alloc (Nat.le_refl _) _).alloc (by simp) _).alloc (by simp; omega) _).alloc (by simp; omega) _).alloc (by simp; omega) _)
  have z1 : Z + 1 + 1 + 1 + 1 < w1.heap.size := by rw [← hw1, ← hZ]; simp
  have y1 : w.heap.size = Z := hZ
  have gb_1 : HasO w1 (Z) (.cells #[.int .i64 5, .int .i64 5, .int .i64 100, .slice L 5 lc] 24 (0, 0)) := by rw [← hw1, ← hZ]; have h := (HasO.alloc (HasO.alloc (HasO.alloc (HasO.alloc (HasO.new (w := w) (o := .cells #[.int .i64 5, .int .i64 5, .int .i64 100, .slice L 5 lc] 24) rfl) (.cells #[.slice (some ⟨b1, 0, none⟩) 1 1, .slice (some ⟨b2, 0, none⟩) 1 1] 80)) (.cells #[.int .i64 20, .int .i64 20, .int .i64 10, .int .i64 20, .bool false] 82)) (.cells #[.int .i64 0, .slice none 0 0, .slice A1 1 c1, .slice none 0 0, .bool false] 89)) (.cells #[.int .i64 0, .slice none 0 0, .slice none 0 0, .slice none 0 0, .bool false] 89)); simpa only [World.size_alloc] using h
  have fb_1 : HasO w1 (Z + 1) (.cells #[.slice (some ⟨b1, 0, none⟩) 1 1, .slice (some ⟨b2, 0, none⟩) 1 1] 80 (0, 0)) := by rw [← hw1, ← hZ]; have h := (HasO.alloc (HasO.alloc (HasO.alloc (HasO.new (w := (w.alloc (.cells #[.int .i64 5, .int .i64 5, .int .i64 100, .slice L 5 lc] 24))) (o := .cells #[.slice (some ⟨b1, 0, none⟩) 1 1, .slice (some ⟨b2, 0, none⟩) 1 1] 80) rfl) (.cells #[.int .i64 20, .int .i64 20, .int .i64 10, .int .i64 20, .bool false] 82)) (.cells #[.int .i64 0, .slice none 0 0, .slice A1 1 c1, .slice none 0 0, .bool false] 89)) (.cells #[.int .i64 0, .slice none 0 0, .slice none 0 0, .slice none 0 0, .bool false] 89)); simpa only [World.size_alloc] using h
  have db_1 : HasO w1 (Z + 1 + 1) (.cells #[.int .i64 20, .int .i64 20, .int .i64 10, .int .i64 20, .bool false] 82 (0, 0)) := by rw [← hw1, ← hZ]; have h := (HasO.alloc (HasO.alloc (HasO.new (w := ((w.alloc (.cells #[.int .i64 5, .int .i64 5, .int .i64 100, .slice L 5 lc] 24)).alloc (.cells #[.slice (some ⟨b1, 0, none⟩) 1 1, .slice (some ⟨b2, 0, none⟩) 1 1] 80))) (o := .cells #[.int .i64 20, .int .i64 20, .int .i64 10, .int .i64 20, .bool false] 82) rfl) (.cells #[.int .i64 0, .slice none 0 0, .slice A1 1 c1, .slice none 0 0, .bool false] 89)) (.cells #[.int .i64 0, .slice none 0 0, .slice none 0 0, .slice none 0 0, .bool false] 89)); simpa only [World.size_alloc] using h
  have pat_1 : HasO w1 (Z + 1 + 1 + 1) (.cells #[.int .i64 0, .slice none 0 0, .slice A1 1 c1, .slice none 0 0, .bool false] 89 (0, 0)) := by rw [← hw1, ← hZ]; have h := (HasO.alloc (HasO.new (w := (((w.alloc (.cells #[.int .i64 5, .int .i64 5, .int .i64 100, .slice L 5 lc] 24)).alloc (.cells #[.slice (some ⟨b1, 0, none⟩) 1 1, .slice (some ⟨b2, 0, none⟩) 1 1] 80)).alloc (.cells #[.int .i64 20, .int .i64 20, .int .i64 10, .int .i64 20, .bool false] 82))) (o := .cells #[.int .i64 0, .slice none 0 0, .slice A1 1 c1, .slice none 0 0, .bool false] 89) rfl) (.cells #[.int .i64 0, .slice none 0 0, .slice none 0 0, .slice none 0 0, .bool false] 89)); simpa only [World.size_alloc] using h
  have res_1 : HasO w1 (Z + 1 + 1 + 1 + 1) (.cells #[.int .i64 0, .slice none 0 0, .slice none 0 0, .slice none 0 0, .bool false] 89 (0, 0)) := by rw [← hw1, ← hZ]; have h := (HasO.new (w := ((((w.alloc (.cells #[.int .i64 5, .int .i64 5, .int .i64 100, .slice L 5 lc] 24)).alloc (.cells #[.slice (some ⟨b1, 0, none⟩) 1 1, .slice (some ⟨b2, 0, none⟩) 1 1] 80)).alloc (.cells #[.int .i64 20, .int .i64 20, .int .i64 10, .int .i64 20, .bool false] 82)).alloc (.cells #[.int .i64 0, .slice none 0 0, .slice A1 1 c1, .slice none 0 0, .bool false] 89))) (o := .cells #[.int .i64 0, .slice none 0 0, .slice none 0 0, .slice none 0 0, .bool false] 89) rfl); simpa only [World.size_alloc] using h
  (try rw [hw1]); (try rw [hZ])
  clear hw1 hZ
  have S1 := k1.size
  have HB_1 := Lib.hid (HB_0.out.below k1)
  have H1_1 := Lib.hid (H1_0.out.below k1)
  have BB1 := Lib.hid (BB0.out.trans (k1.mono BB0.out.size))
  clear k1 HB_0 H1_0 BB0
  have gbH_1 := Lib.hid gb_1
  clear gb_1
  have fbH_1 := Lib.hid fb_1
  clear fb_1
  have dbH_1 := Lib.hid db_1
  clear db_1
  have patH_1 := Lib.hid pat_1
  clear pat_1
  have resH_1 := Lib.hid res_1
  clear res_1
  have q1gb0 := HasO.cell (i := 0) gbH_1.out rfl
  have q1gb1 := HasO.cell (i := 1) gbH_1.out rfl
  have q1gb2 := HasO.cell (i := 2) gbH_1.out rfl
  have q1gb3 := HasO.cell (i := 3) gbH_1.out rfl
  have q1fb0 := HasO.cell (i := 0) fbH_1.out rfl
  have q1fb1 := HasO.cell (i := 1) fbH_1.out rfl
  have q1db0 := HasO.cell (i := 0) dbH_1.out rfl
  have q1db1 := HasO.cell (i := 1) dbH_1.out rfl
  have q1db2 := HasO.cell (i := 2) dbH_1.out rfl
  have q1db3 := HasO.cell (i := 3) dbH_1.out rfl
  have q1db4 := HasO.cell (i := 4) dbH_1.out rfl
  go_upto_region 2 with fail
  clear q1gb0 q1gb1 q1gb2 q1gb3 q1fb0 q1fb1 q1db0 q1db1 q1db2 q1db3 q1db4
  obtain ⟨P, hP⟩ : ∃ Z, w1.heap.size = Z := ⟨_, rfl⟩
  obtain ⟨w2, hw2⟩ : ∃ Z, (w1.alloc (.cells #[.int .i64 5, .int .i64 5, .int .i64 100, .slice L 5 lc, .slice (some ⟨b1, 0, none⟩) 1 1, .slice (some ⟨b2, 0, none⟩) 1 1, .int .i64 20, .int .i64 20, .int .i64 10, .int .i64 20, .bool false] 165)) = Z := ⟨_, rfl⟩
  have k2 : Below w1.heap.size w1 w2 := by rw [← hw2]; exact ((Below.refl _ _).alloc (Nat.le_refl _) _)
  have z2 : P < w2.heap.size := by rw [← hw2, ← hP]; simp
  have y2 : w1.heap.size = P := hP
  have sea_2 : HasO w2 (P) (.cells #[.int .i64 5, .int .i64 5, .int .i64 100, .slice L 5 lc, .slice (some ⟨b1, 0, none⟩) 1 1, .slice (some ⟨b2, 0, none⟩) 1 1, .int .i64 20, .int .i64 20, .int .i64 10, .int .i64 20, .bool false] 165 (0, 0)) := by rw [← hw2, ← hP]; have h := (HasO.new (w := w1) (o := .cells #[.int .i64 5, .int .i64 5, .int .i64 100, .slice L 5 lc, .slice (some ⟨b1, 0, none⟩) 1 1, .slice (some ⟨b2, 0, none⟩) 1 1, .int .i64 20, .int .i64 20, .int .i64 10, .int .i64 20, .bool false] 165) rfl); simpa only [World.size_alloc] using h
  (try rw [hw2]); (try rw [hP])
  clear hw2 hP
  have S2 := k2.size
  have HB_2 := Lib.hid (HB_1.out.below k2)
  have H1_2 := Lib.hid (H1_1.out.below k2)
  have gb_2 := Lib.hid (gbH_1.out.below k2)
  have fb_2 := Lib.hid (fbH_1.out.below k2)
  have db_2 := Lib.hid (dbH_1.out.below k2)
  have pat_2 := Lib.hid (patH_1.out.below k2)
  have res_2 := Lib.hid (resH_1.out.below k2)
  have BB2 := Lib.hid (BB1.out.trans (k2.mono BB1.out.size))
  clear k2 HB_1 H1_1 gbH_1 fbH_1 dbH_1 patH_1 resH_1 BB1
  have seaH_2 := Lib.hid sea_2
  clear sea_2
  have q2sea0 := HasO.cell (i := 0) seaH_2.out rfl
  have q2sea1 := HasO.cell (i := 1) seaH_2.out rfl
  have q2sea2 := HasO.cell (i := 2) seaH_2.out rfl
  have q2sea3 := HasO.cell (i := 3) seaH_2.out rfl
  have q2sea4 := HasO.cell (i := 4) seaH_2.out rfl
  have q2sea5 := HasO.cell (i := 5) seaH_2.out rfl
  have q2sea6 := HasO.cell (i := 6) seaH_2.out rfl
  have q2sea7 := HasO.cell (i := 7) seaH_2.out rfl
  have q2sea8 := HasO.cell (i := 8) seaH_2.out rfl
  have q2sea9 := HasO.cell (i := 9) seaH_2.out rfl
  have q2sea10 := HasO.cell (i := 10) seaH_2.out rfl
  go_wp2_with fail
  refine (right_dn L A lc b1 b2 ca 1000 _ HB_2.out (by decide)).mono ?_
  rintro e w3 ⟨rfl, hb3⟩
  have k3 : Below w2.heap.size w2 w3 := hb3
  clear hb3
  have S3 := k3.size
  have HB_3 := Lib.hid (HB_2.out.below k3)
  have H1_3 := Lib.hid (H1_2.out.below k3)
  have gb_3 := Lib.hid (gb_2.out.below k3)
  have fb_3 := Lib.hid (fb_2.out.below k3)
  have db_3 := Lib.hid (db_2.out.below k3)
  have pat_3 := Lib.hid (pat_2.out.below k3)
  have res_3 := Lib.hid (res_2.out.below k3)
  have sea_3 := Lib.hid (seaH_2.out.below k3)
  have BB3 := Lib.hid (BB2.out.trans (k3.mono BB2.out.size))
  clear k3 HB_2 H1_2 gb_2 fb_2 db_2 pat_2 res_2 seaH_2 BB2
  clear q2sea0 q2sea1 q2sea2 q2sea3 q2sea4 q2sea5 q2sea6 q2sea7 q2sea8 q2sea9 q2sea10
  have q3gb0 := HasO.cell (i := 0) gb_3.out rfl
  have q3gb1 := HasO.cell (i := 1) gb_3.out rfl
  have q3gb2 := HasO.cell (i := 2) gb_3.out rfl
  have q3gb3 := HasO.cell (i := 3) gb_3.out rfl
  have q3pat0 := HasO.cell (i := 0) pat_3.out rfl
  have q3pat1 := HasO.cell (i := 1) pat_3.out rfl
  have q3pat2 := HasO.cell (i := 2) pat_3.out rfl
  have q3pat3 := HasO.cell (i := 3) pat_3.out rfl
  have q3pat4 := HasO.cell (i := 4) pat_3.out rfl
  go_wp2_with fail
  refine (checkPatch_dn 0 false L none A1 lc 0 1 0 c1 [] [(1, 3, 4)] _ HB_3.out.1 (Lst.nil _) H1_3.out (by decide) afl_n afl_b).mono ?_
  rintro e w4 ⟨rfl, hb4⟩
  have k4 : Below w3.heap.size w3 w4 := hb4
  clear hb4
  have S4 := k4.size
  have HB_4 := Lib.hid (HB_3.out.below k4)
  have H1_4 := Lib.hid (H1_3.out.below k4)
  have gb_4 := Lib.hid (gb_3.out.below k4)
  have fb_4 := Lib.hid (fb_3.out.below k4)
  have db_4 := Lib.hid (db_3.out.below k4)
  have pat_4 := Lib.hid (pat_3.out.below k4)
  have res_4 := Lib.hid (res_3.out.below k4)
  have sea_4 := Lib.hid (sea_3.out.below k4)
  have BB4 := Lib.hid (BB3.out.trans (k4.mono BB3.out.size))
  clear k4 HB_3 H1_3 gb_3 fb_3 db_3 pat_3 res_3 sea_3 BB3
  clear q3gb0 q3gb1 q3gb2 q3gb3 q3pat0 q3pat1 q3pat2 q3pat3 q3pat4
  have q4sea0 := HasO.cell (i := 0) sea_4.out rfl
  have q4sea1 := HasO.cell (i := 1) sea_4.out rfl
  have q4sea2 := HasO.cell (i := 2) sea_4.out rfl
  have q4sea3 := HasO.cell (i := 3) sea_4.out rfl
  have q4sea4 := HasO.cell (i := 4) sea_4.out rfl
  have q4sea5 := HasO.cell (i := 5) sea_4.out rfl
  have q4sea6 := HasO.cell (i := 6) sea_4.out rfl
  have q4sea7 := HasO.cell (i := 7) sea_4.out rfl
  have q4sea8 := HasO.cell (i := 8) sea_4.out rfl
  have q4sea9 := HasO.cell (i := 9) sea_4.out rfl
  have q4sea10 := HasO.cell (i := 10) sea_4.out rfl
  have q4pat0 := HasO.cell (i := 0) pat_4.out rfl
  have q4pat1 := HasO.cell (i := 1) pat_4.out rfl
  have q4pat2 := HasO.cell (i := 2) pat_4.out rfl
  have q4pat3 := HasO.cell (i := 3) pat_4.out rfl
  have q4pat4 := HasO.cell (i := 4) pat_4.out rfl
  go_wp2_with fail
  refine (step_right L A A1 lc b1 b2 ca c1 _ HB_4.out H1_4.out).mono ?_
  rintro e w5 ⟨⟨P0, P1, P2, k0, k1, k2, e0, e1, e2, rfl, hr0, hr1, hr2⟩, hb5⟩
  have k5 : Below w4.heap.size w4 w5 := hb5
  clear hb5
  have S5 := k5.size
  have HB_5 := Lib.hid (HB_4.out.below k5)
  have H1_5 := Lib.hid (H1_4.out.below k5)
  have gb_5 := Lib.hid (gb_4.out.below k5)
  have fb_5 := Lib.hid (fb_4.out.below k5)
  have db_5 := Lib.hid (db_4.out.below k5)
  have pat_5 := Lib.hid (pat_4.out.below k5)
  have res_5 := Lib.hid (res_4.out.below k5)
  have sea_5 := Lib.hid (sea_4.out.below k5)
  have BB5 := Lib.hid (BB4.out.trans (k5.mono BB4.out.size))
  clear k5 HB_4 H1_4 gb_4 fb_4 db_4 pat_4 res_4 sea_4 BB4
  clear q4sea0 q4sea1 q4sea2 q4sea3 q4sea4 q4sea5 q4sea6 q4sea7 q4sea8 q4sea9 q4sea10 q4pat0 q4pat1 q4pat2 q4pat3 q4pat4
  have r0_h5 := Lib.hid (hr0)
  have r1_h5 := Lib.hid (hr1)
  have r2_h5 := Lib.hid (hr2)
  clear hr0 hr1 hr2
  clear gb_5
  clear fb_5
  clear db_5
  clear pat_5
  clear sea_5
  have q5res0 := HasO.cell (i := 0) res_5.out rfl
  have q5resf0 := HasO.frozen (i := 0) res_5.out
  have q5res1 := HasO.cell (i := 1) res_5.out rfl
  have q5resf1 := HasO.frozen (i := 1) res_5.out
  have q5res2 := HasO.cell (i := 2) res_5.out rfl
  have q5resf2 := HasO.frozen (i := 2) res_5.out
  have q5res3 := HasO.cell (i := 3) res_5.out rfl
  have q5resf3 := HasO.frozen (i := 3) res_5.out
  have q5res4 := HasO.cell (i := 4) res_5.out rfl
  have q5resf4 := HasO.frozen (i := 4) res_5.out
  go_wp2_with fail
  have X5 : Xm (Z + 1 + 1 + 1 + 1) w5 (((((w5.setCell ⟨Z + 1 + 1 + 1 + 1, 0, none⟩ (.int .i64 1000)).setCell ⟨Z + 1 + 1 + 1 + 1, 1, none⟩ (.slice P0 k0 e0)).setCell ⟨Z + 1 + 1 + 1 + 1, 2, none⟩ (.slice P1 k1 e1)).setCell ⟨Z + 1 + 1 + 1 + 1, 3, none⟩ (.slice P2 k2 e2)).setCell ⟨Z + 1 + 1 + 1 + 1, 4, none⟩ (.bool false)) := ((((((Xm.refl (Z + 1 + 1 + 1 + 1) w5).trans (Xm.set w5 (.int .i64 1000))).trans (Xm.set (w5.setCell ⟨Z + 1 + 1 + 1 + 1, 0, none⟩ (.int .i64 1000)) (.slice P0 k0 e0))).trans (Xm.set ((w5.setCell ⟨Z + 1 + 1 + 1 + 1, 0, none⟩ (.int .i64 1000)).setCell ⟨Z + 1 + 1 + 1 + 1, 1, none⟩ (.slice P0 k0 e0)) (.slice P1 k1 e1))).trans (Xm.set (((w5.setCell ⟨Z + 1 + 1 + 1 + 1, 0, none⟩ (.int .i64 1000)).setCell ⟨Z + 1 + 1 + 1 + 1, 1, none⟩ (.slice P0 k0 e0)).setCell ⟨Z + 1 + 1 + 1 + 1, 2, none⟩ (.slice P1 k1 e1)) (.slice P2 k2 e2))).trans (Xm.set ((((w5.setCell ⟨Z + 1 + 1 + 1 + 1, 0, none⟩ (.int .i64 1000)).setCell ⟨Z + 1 + 1 + 1 + 1, 1, none⟩ (.slice P0 k0 e0)).setCell ⟨Z + 1 + 1 + 1 + 1, 2, none⟩ (.slice P1 k1 e1)).setCell ⟨Z + 1 + 1 + 1 + 1, 3, none⟩ (.slice P2 k2 e2)) (.bool false)))
  have H5 : HasO (((((w5.setCell ⟨Z + 1 + 1 + 1 + 1, 0, none⟩ (.int .i64 1000)).setCell ⟨Z + 1 + 1 + 1 + 1, 1, none⟩ (.slice P0 k0 e0)).setCell ⟨Z + 1 + 1 + 1 + 1, 2, none⟩ (.slice P1 k1 e1)).setCell ⟨Z + 1 + 1 + 1 + 1, 3, none⟩ (.slice P2 k2 e2)).setCell ⟨Z + 1 + 1 + 1 + 1, 4, none⟩ (.bool false)) (Z + 1 + 1 + 1 + 1) (.cells #[.int .i64 1000, .slice P0 k0 e0, .slice P1 k1 e1, .slice P2 k2 e2, .bool false] 89 (0, 0)) := (HasO.set (i := 4) (v := .bool false) (HasO.set (i := 3) (v := .slice P2 k2 e2) (HasO.set (i := 2) (v := .slice P1 k1 e1) (HasO.set (i := 1) (v := .slice P0 k0 e0) (HasO.set (i := 0) (v := .int .i64 1000) res_5.out)))))
  generalize (((((w5.setCell ⟨Z + 1 + 1 + 1 + 1, 0, none⟩ (.int .i64 1000)).setCell ⟨Z + 1 + 1 + 1 + 1, 1, none⟩ (.slice P0 k0 e0)).setCell ⟨Z + 1 + 1 + 1 + 1, 2, none⟩ (.slice P1 k1 e1)).setCell ⟨Z + 1 + 1 + 1 + 1, 3, none⟩ (.slice P2 k2 e2)).setCell ⟨Z + 1 + 1 + 1 + 1, 4, none⟩ (.bool false)) = W5 at X5 H5 ⊢
  have f0 := HasO.cell (i := 0) H5 rfl
  have f1 := HasO.cell (i := 1) H5 rfl
  have f2 := HasO.cell (i := 2) H5 rfl
  have f3 := HasO.cell (i := 3) H5 rfl
  have f4 := HasO.cell (i := 4) H5 rfl
  refine bodyPost_ret (v := .tuple #[.agg #[.int .i64 1000, .slice P0 k0 e0, .slice P1 k1 e1, .slice P2 k2 e2, .bool false], .int .i64 0]) (by simp [results, Try.results45, go_sem, f0, f1, f2, f3, f4]) rfl ?_
  exact ⟨⟨P0, P1, P2, k0, k1, k2, e0, e1, e2, rfl, Runs.xmPatch r0_h5.out res_5.out X5, Runs.xmPatch r1_h5.out res_5.out X5, Runs.xmPatch r2_h5.out res_5.out X5⟩, BB5.out.trans (X5.below (B := w.heap.size) (by omega) (by omega))⟩

set_option maxRecDepth 100000 in
set_option maxHeartbeats 16000000 in
theorem Step_land (L A A1 : Option Addr) (lc b1 b2 ca c1 : Nat) (w : World) (hB : Bay w L lc b1 b2 A ca) (h1 : Runs w (.slice A1 1 c1) [(1, 4, 5)]) :
    Calls Try.prog 45 #[.agg #[.int .i64 5, .int .i64 5, .int .i64 100, .slice L 5 lc], .agg #[.slice (some ⟨b1, 0, none⟩) 1 1, .slice (some ⟨b2, 0, none⟩) 1 1], .agg #[.int .i64 20, .int .i64 20, .int .i64 10, .int .i64 20, .bool false], .agg #[.int .i64 0, .slice A1 1 c1, .slice none 0 0, .slice none 0 0, .bool false], .int .i64 1000] w fun e w' => e = .returned (.tuple #[.agg #[.int .i64 0, .slice none 0 0, .slice none 0 0, .slice none 0 0, .bool false], .int .i64 2]) ∧ Below w.heap.size w w' := by
  have HB_0 := Lib.hid hB
  have H1_0 := Lib.hid h1
  have BB0 := Lib.hid (Below.refl w.heap.size w)
  clear hB h1
  go_enter Try.func45, Try.ntmps45
  go_upto_region 1 with fail
  obtain ⟨Z, hZ⟩ : ∃ Z, w.heap.size = Z := ⟨_, rfl⟩
  obtain ⟨w1, hw1⟩ : ∃ Z, (((((w.alloc (.cells #[.int .i64 5, .int .i64 5, .int .i64 100, .slice L 5 lc] 24)).alloc (.cells #[.slice (some ⟨b1, 0, none⟩) 1 1, .slice (some ⟨b2, 0, none⟩) 1 1] 80)).alloc (.cells #[.int .i64 20, .int .i64 20, .int .i64 10, .int .i64 20, .bool false] 82)).alloc (.cells #[.int .i64 0, .slice A1 1 c1, .slice none 0 0, .slice none 0 0, .bool false] 89)).alloc (.cells #[.int .i64 0, .slice none 0 0, .slice none 0 0, .slice none 0 0, .bool false] 89)) = Z := ⟨_, rfl⟩
  have k1 : Below w.heap.size w w1 := by rw [← hw1]; exact ((((((Below.refl _ _).alloc (Nat.le_refl _) _).alloc (by simp) _).alloc (by simp; omega) _).alloc (by simp; omega) _).alloc (by simp; omega) _)
  have z1 : Z + 1 + 1 + 1 + 1 < w1.heap.size := by rw [← hw1, ← hZ]; simp
  have y1 : w.heap.size = Z := hZ
  have gb_1 : HasO w1 (Z) (.cells #[.int .i64 5, .int .i64 5, .int .i64 100, .slice L 5 lc] 24 (0, 0)) := by rw [← hw1, ← hZ]; have h := (HasO.alloc (HasO.alloc (HasO.alloc (HasO.alloc (HasO.new (w := w) (o := .cells #[.int .i64 5, .int .i64 5, .int .i64 100, .slice L 5 lc] 24) rfl) (.cells #[.slice (some ⟨b1, 0, none⟩) 1 1, .slice (some ⟨b2, 0, none⟩) 1 1] 80)) (.cells #[.int .i64 20, .int .i64 20, .int .i64 10, .int .i64 20, .bool false] 82)) (.cells #[.int .i64 0, .slice A1 1 c1, .slice none 0 0, .slice none 0 0, .bool false] 89)) (.cells #[.int .i64 0, .slice none 0 0, .slice none 0 0, .slice none 0 0, .bool false] 89)); simpa only [World.size_alloc] using h
  have fb_1 : HasO w1 (Z + 1) (.cells #[.slice (some ⟨b1, 0, none⟩) 1 1, .slice (some ⟨b2, 0, none⟩) 1 1] 80 (0, 0)) := by rw [← hw1, ← hZ]; have h := (HasO.alloc (HasO.alloc (HasO.alloc (HasO.new (w := (w.alloc (.cells #[.int .i64 5, .int .i64 5, .int .i64 100, .slice L 5 lc] 24))) (o := .cells #[.slice (some ⟨b1, 0, none⟩) 1 1, .slice (some ⟨b2, 0, none⟩) 1 1] 80) rfl) (.cells #[.int .i64 20, .int .i64 20, .int .i64 10, .int .i64 20, .bool false] 82)) (.cells #[.int .i64 0, .slice A1 1 c1, .slice none 0 0, .slice none 0 0, .bool false] 89)) (.cells #[.int .i64 0, .slice none 0 0, .slice none 0 0, .slice none 0 0, .bool false] 89)); simpa only [World.size_alloc] using h
  have db_1 : HasO w1 (Z + 1 + 1) (.cells #[.int .i64 20, .int .i64 20, .int .i64 10, .int .i64 20, .bool false] 82 (0, 0)) := by rw [← hw1, ← hZ]; have h := (HasO.alloc (HasO.alloc (HasO.new (w := ((w.alloc (.cells #[.int .i64 5, .int .i64 5, .int .i64 100, .slice L 5 lc] 24)).alloc (.cells #[.slice (some ⟨b1, 0, none⟩) 1 1, .slice (some ⟨b2, 0, none⟩) 1 1] 80))) (o := .cells #[.int .i64 20, .int .i64 20, .int .i64 10, .int .i64 20, .bool false] 82) rfl) (.cells #[.int .i64 0, .slice A1 1 c1, .slice none 0 0, .slice none 0 0, .bool false] 89)) (.cells #[.int .i64 0, .slice none 0 0, .slice none 0 0, .slice none 0 0, .bool false] 89)); simpa only [World.size_alloc] using h
  have pat_1 : HasO w1 (Z + 1 + 1 + 1) (.cells #[.int .i64 0, .slice A1 1 c1, .slice none 0 0, .slice none 0 0, .bool false] 89 (0, 0)) := by rw [← hw1, ← hZ]; have h := (HasO.alloc (HasO.new (w := (((w.alloc (.cells #[.int .i64 5, .int .i64 5, .int .i64 100, .slice L 5 lc] 24)).alloc (.cells #[.slice (some ⟨b1, 0, none⟩) 1 1, .slice (some ⟨b2, 0, none⟩) 1 1] 80)).alloc (.cells #[.int .i64 20, .int .i64 20, .int .i64 10, .int .i64 20, .bool false] 82))) (o := .cells #[.int .i64 0, .slice A1 1 c1, .slice none 0 0, .slice none 0 0, .bool false] 89) rfl) (.cells #[.int .i64 0, .slice none 0 0, .slice none 0 0, .slice none 0 0, .bool false] 89)); simpa only [World.size_alloc] using h
  have res_1 : HasO w1 (Z + 1 + 1 + 1 + 1) (.cells #[.int .i64 0, .slice none 0 0, .slice none 0 0, .slice none 0 0, .bool false] 89 (0, 0)) := by rw [← hw1, ← hZ]; have h := (HasO.new (w := ((((w.alloc (.cells #[.int .i64 5, .int .i64 5, .int .i64 100, .slice L 5 lc] 24)).alloc (.cells #[.slice (some ⟨b1, 0, none⟩) 1 1, .slice (some ⟨b2, 0, none⟩) 1 1] 80)).alloc (.cells #[.int .i64 20, .int .i64 20, .int .i64 10, .int .i64 20, .bool false] 82)).alloc (.cells #[.int .i64 0, .slice A1 1 c1, .slice none 0 0, .slice none 0 0, .bool false] 89))) (o := .cells #[.int .i64 0, .slice none 0 0, .slice none 0 0, .slice none 0 0, .bool false] 89) rfl); simpa only [World.size_alloc] using h
  (try rw [hw1]); (try rw [hZ])
  clear hw1 hZ
  have S1 := k1.size
  have HB_1 := Lib.hid (HB_0.out.below k1)
  have H1_1 := Lib.hid (H1_0.out.below k1)
  have BB1 := Lib.hid (BB0.out.trans (k1.mono BB0.out.size))
  clear k1 HB_0 H1_0 BB0
  have gbH_1 := Lib.hid gb_1
  clear gb_1
  have fbH_1 := Lib.hid fb_1
  clear fb_1
  have dbH_1 := Lib.hid db_1
  clear db_1
  have patH_1 := Lib.hid pat_1
  clear pat_1
  have resH_1 := Lib.hid res_1
  clear res_1
  have q1gb0 := HasO.cell (i := 0) gbH_1.out rfl
  have q1gb1 := HasO.cell (i := 1) gbH_1.out rfl
  have q1gb2 := HasO.cell (i := 2) gbH_1.out rfl
  have q1gb3 := HasO.cell (i := 3) gbH_1.out rfl
  have q1fb0 := HasO.cell (i := 0) fbH_1.out rfl
  have q1fb1 := HasO.cell (i := 1) fbH_1.out rfl
  have q1db0 := HasO.cell (i := 0) dbH_1.out rfl
  have q1db1 := HasO.cell (i := 1) dbH_1.out rfl
  have q1db2 := HasO.cell (i := 2) dbH_1.out rfl
  have q1db3 := HasO.cell (i := 3) dbH_1.out rfl
  have q1db4 := HasO.cell (i := 4) dbH_1.out rfl
  go_upto_region 2 with fail
  clear q1gb0 q1gb1 q1gb2 q1gb3 q1fb0 q1fb1 q1db0 q1db1 q1db2 q1db3 q1db4
  obtain ⟨P, hP⟩ : ∃ Z, w1.heap.size = Z := ⟨_, rfl⟩
  obtain ⟨w2, hw2⟩ : ∃ Z, (w1.alloc (.cells #[.int .i64 5, .int .i64 5, .int .i64 100, .slice L 5 lc, .slice (some ⟨b1, 0, none⟩) 1 1, .slice (some ⟨b2, 0, none⟩) 1 1, .int .i64 20, .int .i64 20, .int .i64 10, .int .i64 20, .bool false] 165)) = Z := ⟨_, rfl⟩
  have k2 : Below w1.heap.size w1 w2 := by rw [← hw2]; exact ((Below.refl _ _).alloc (Nat.le_refl _) _)
  have z2 : P < w2.heap.size := by rw [← hw2, ← hP]; simp
  have y2 : w1.heap.size = P := hP
  have sea_2 : HasO w2 (P) (.cells #[.int .i64 5, .int .i64 5, .int .i64 100, .slice L 5 lc, .slice (some ⟨b1, 0, none⟩) 1 1, .slice (some ⟨b2, 0, none⟩) 1 1, .int .i64 20, .int .i64 20, .int .i64 10, .int .i64 20, .bool false] 165 (0, 0)) := by rw [← hw2, ← hP]; have h := (HasO.new (w := w1) (o := .cells #[.int .i64 5, .int .i64 5, .int .i64 100, .slice L 5 lc, .slice (some ⟨b1, 0, none⟩) 1 1, .slice (some ⟨b2, 0, none⟩) 1 1, .int .i64 20, .int .i64 20, .int .i64 10, .int .i64 20, .bool false] 165) rfl); simpa only [World.size_alloc] using h
  (try rw [hw2]); (try rw [hP])
  clear hw2 hP
  have S2 := k2.size
  have HB_2 := Lib.hid (HB_1.out.below k2)
  have H1_2 := Lib.hid (H1_1.out.below k2)
  have gb_2 := Lib.hid (gbH_1.out.below k2)
  have fb_2 := Lib.hid (fbH_1.out.below k2)
  have db_2 := Lib.hid (dbH_1.out.below k2)
  have pat_2 := Lib.hid (patH_1.out.below k2)
  have res_2 := Lib.hid (resH_1.out.below k2)
  have BB2 := Lib.hid (BB1.out.trans (k2.mono BB1.out.size))
  clear k2 HB_1 H1_1 gbH_1 fbH_1 dbH_1 patH_1 resH_1 BB1
  have seaH_2 := Lib.hid sea_2
  clear sea_2
  have q2sea0 := HasO.cell (i := 0) seaH_2.out rfl
  have q2sea1 := HasO.cell (i := 1) seaH_2.out rfl
  have q2sea2 := HasO.cell (i := 2) seaH_2.out rfl
  have q2sea3 := HasO.cell (i := 3) seaH_2.out rfl
  have q2sea4 := HasO.cell (i := 4) seaH_2.out rfl
  have q2sea5 := HasO.cell (i := 5) seaH_2.out rfl
  have q2sea6 := HasO.cell (i := 6) seaH_2.out rfl
  have q2sea7 := HasO.cell (i := 7) seaH_2.out rfl
  have q2sea8 := HasO.cell (i := 8) seaH_2.out rfl
  have q2sea9 := HasO.cell (i := 9) seaH_2.out rfl
  have q2sea10 := HasO.cell (i := 10) seaH_2.out rfl
  go_wp2_with fail
  refine (right_dn L A lc b1 b2 ca 1000 _ HB_2.out (by decide)).mono ?_
  rintro e w3 ⟨rfl, hb3⟩
  have k3 : Below w2.heap.size w2 w3 := hb3
  clear hb3
  have S3 := k3.size
  have HB_3 := Lib.hid (HB_2.out.below k3)
  have H1_3 := Lib.hid (H1_2.out.below k3)
  have gb_3 := Lib.hid (gb_2.out.below k3)
  have fb_3 := Lib.hid (fb_2.out.below k3)
  have db_3 := Lib.hid (db_2.out.below k3)
  have pat_3 := Lib.hid (pat_2.out.below k3)
  have res_3 := Lib.hid (res_2.out.below k3)
  have sea_3 := Lib.hid (seaH_2.out.below k3)
  have BB3 := Lib.hid (BB2.out.trans (k3.mono BB2.out.size))
  clear k3 HB_2 H1_2 gb_2 fb_2 db_2 pat_2 res_2 seaH_2 BB2
  clear q2sea0 q2sea1 q2sea2 q2sea3 q2sea4 q2sea5 q2sea6 q2sea7 q2sea8 q2sea9 q2sea10
  have q3gb0 := HasO.cell (i := 0) gb_3.out rfl
  have q3gb1 := HasO.cell (i := 1) gb_3.out rfl
  have q3gb2 := HasO.cell (i := 2) gb_3.out rfl
  have q3gb3 := HasO.cell (i := 3) gb_3.out rfl
  have q3pat0 := HasO.cell (i := 0) pat_3.out rfl
  have q3pat1 := HasO.cell (i := 1) pat_3.out rfl
  have q3pat2 := HasO.cell (i := 2) pat_3.out rfl
  have q3pat3 := HasO.cell (i := 3) pat_3.out rfl
  have q3pat4 := HasO.cell (i := 4) pat_3.out rfl
  go_wp2_with fail
  refine (checkPatch_bad L A1 lc c1 _ HB_3.out.1 H1_3.out).mono ?_
  rintro e w4 ⟨rfl, hb4⟩
  have k4 : Below w3.heap.size w3 w4 := hb4
  clear hb4
  have S4 := k4.size
  have HB_4 := Lib.hid (HB_3.out.below k4)
  have H1_4 := Lib.hid (H1_3.out.below k4)
  have gb_4 := Lib.hid (gb_3.out.below k4)
  have fb_4 := Lib.hid (fb_3.out.below k4)
  have db_4 := Lib.hid (db_3.out.below k4)
  have pat_4 := Lib.hid (pat_3.out.below k4)
  have res_4 := Lib.hid (res_3.out.below k4)
  have sea_4 := Lib.hid (sea_3.out.below k4)
  have BB4 := Lib.hid (BB3.out.trans (k4.mono BB3.out.size))
  clear k4 HB_3 H1_3 gb_3 fb_3 db_3 pat_3 res_3 sea_3 BB3
  clear q3gb0 q3gb1 q3gb2 q3gb3 q3pat0 q3pat1 q3pat2 q3pat3 q3pat4
  clear gb_4
  clear fb_4
  clear db_4
  clear pat_4
  clear sea_4
  have q4res0 := HasO.cell (i := 0) res_4.out rfl
  have q4resf0 := HasO.frozen (i := 0) res_4.out
  have q4res1 := HasO.cell (i := 1) res_4.out rfl
  have q4resf1 := HasO.frozen (i := 1) res_4.out
  have q4res2 := HasO.cell (i := 2) res_4.out rfl
  have q4resf2 := HasO.frozen (i := 2) res_4.out
  have q4res3 := HasO.cell (i := 3) res_4.out rfl
  have q4resf3 := HasO.frozen (i := 3) res_4.out
  have q4res4 := HasO.cell (i := 4) res_4.out rfl
  have q4resf4 := HasO.frozen (i := 4) res_4.out
  go_wp2_with fail
  have X5 : Xm (Z + 1 + 1 + 1 + 1) w4 (((((w4.setCell ⟨Z + 1 + 1 + 1 + 1, 0, none⟩ (.int .i64 0)).setCell ⟨Z + 1 + 1 + 1 + 1, 1, none⟩ (.slice none 0 0)).setCell ⟨Z + 1 + 1 + 1 + 1, 2, none⟩ (.slice none 0 0)).setCell ⟨Z + 1 + 1 + 1 + 1, 3, none⟩ (.slice none 0 0)).setCell ⟨Z + 1 + 1 + 1 + 1, 4, none⟩ (.bool false)) := ((((((Xm.refl (Z + 1 + 1 + 1 + 1) w4).trans (Xm.set w4 (.int .i64 0))).trans (Xm.set (w4.setCell ⟨Z + 1 + 1 + 1 + 1, 0, none⟩ (.int .i64 0)) (.slice none 0 0))).trans (Xm.set ((w4.setCell ⟨Z + 1 + 1 + 1 + 1, 0, none⟩ (.int .i64 0)).setCell ⟨Z + 1 + 1 + 1 + 1, 1, none⟩ (.slice none 0 0)) (.slice none 0 0))).trans (Xm.set (((w4.setCell ⟨Z + 1 + 1 + 1 + 1, 0, none⟩ (.int .i64 0)).setCell ⟨Z + 1 + 1 + 1 + 1, 1, none⟩ (.slice none 0 0)).setCell ⟨Z + 1 + 1 + 1 + 1, 2, none⟩ (.slice none 0 0)) (.slice none 0 0))).trans (Xm.set ((((w4.setCell ⟨Z + 1 + 1 + 1 + 1, 0, none⟩ (.int .i64 0)).setCell ⟨Z + 1 + 1 + 1 + 1, 1, none⟩ (.slice none 0 0)).setCell ⟨Z + 1 + 1 + 1 + 1, 2, none⟩ (.slice none 0 0)).setCell ⟨Z + 1 + 1 + 1 + 1, 3, none⟩ (.slice none 0 0)) (.bool false)))
  have H5 : HasO (((((w4.setCell ⟨Z + 1 + 1 + 1 + 1, 0, none⟩ (.int .i64 0)).setCell ⟨Z + 1 + 1 + 1 + 1, 1, none⟩ (.slice none 0 0)).setCell ⟨Z + 1 + 1 + 1 + 1, 2, none⟩ (.slice none 0 0)).setCell ⟨Z + 1 + 1 + 1 + 1, 3, none⟩ (.slice none 0 0)).setCell ⟨Z + 1 + 1 + 1 + 1, 4, none⟩ (.bool false)) (Z + 1 + 1 + 1 + 1) (.cells #[.int .i64 0, .slice none 0 0, .slice none 0 0, .slice none 0 0, .bool false] 89 (0, 0)) := (HasO.set (i := 4) (v := .bool false) (HasO.set (i := 3) (v := .slice none 0 0) (HasO.set (i := 2) (v := .slice none 0 0) (HasO.set (i := 1) (v := .slice none 0 0) (HasO.set (i := 0) (v := .int .i64 0) res_4.out)))))
  generalize (((((w4.setCell ⟨Z + 1 + 1 + 1 + 1, 0, none⟩ (.int .i64 0)).setCell ⟨Z + 1 + 1 + 1 + 1, 1, none⟩ (.slice none 0 0)).setCell ⟨Z + 1 + 1 + 1 + 1, 2, none⟩ (.slice none 0 0)).setCell ⟨Z + 1 + 1 + 1 + 1, 3, none⟩ (.slice none 0 0)).setCell ⟨Z + 1 + 1 + 1 + 1, 4, none⟩ (.bool false)) = W5 at X5 H5 ⊢
  have f0 := HasO.cell (i := 0) H5 rfl
  have f1 := HasO.cell (i := 1) H5 rfl
  have f2 := HasO.cell (i := 2) H5 rfl
  have f3 := HasO.cell (i := 3) H5 rfl
  have f4 := HasO.cell (i := 4) H5 rfl
  refine bodyPost_ret (v := .tuple #[.agg #[.int .i64 0, .slice none 0 0, .slice none 0 0, .slice none 0 0, .bool false], .int .i64 2]) (by simp [results, Try.results45, go_sem, f0, f1, f2, f3, f4]) rfl ?_
  exact ⟨rfl, BB4.out.trans (X5.below (B := w.heap.size) (by omega) (by omega))⟩

set_option maxRecDepth 100000 in
set_option maxHeartbeats 16000000 in
theorem Before_ok (L A A1 : Option Addr) (lc b1 b2 ca c1 : Nat) (w : World) (hB : Bay w L lc b1 b2 A ca) (h1 : Runs w (.slice A1 1 c1) [(2, 2, 3)]) :
    Calls Try.prog 47 #[.agg #[.int .i64 5, .int .i64 5, .int .i64 100, .slice L 5 lc], .agg #[.slice (some ⟨b1, 0, none⟩) 1 1, .slice (some ⟨b2, 0, none⟩) 1 1], .agg #[.int .i64 20, .int .i64 20, .int .i64 10, .int .i64 20, .bool false], .agg #[.int .i64 1000, .slice A1 1 c1, .slice none 0 0, .slice none 0 0, .bool false], .int .i64 1000] w fun e w' => (∃ P0 P1 P2 k0 k1 k2 e0 e1 e2, e = .returned (.tuple #[.agg #[.int .i64 0, .slice P0 k0 e0, .slice P1 k1 e1, .slice P2 k2 e2, .bool false], .int .i64 0]) ∧ Runs w' (.slice P0 k0 e0) [(1, 1, 2), (2, 1, 2)] ∧ Runs w' (.slice P1 k1 e1) [] ∧ Runs w' (.slice P2 k2 e2) []) ∧ Below w.heap.size w w' := by
  have HB_0 := Lib.hid hB
  have H1_0 := Lib.hid h1
  have BB0 := Lib.hid (Below.refl w.heap.size w)
  clear hB h1
  go_enter Try.func47, Try.ntmps47
  go_upto_region 1 with fail
  obtain ⟨Z, hZ⟩ : ∃ Z, w.heap.size = Z := ⟨_, rfl⟩
  obtain ⟨w1, hw1⟩ : ∃ Z, (((((w.alloc (.cells #[.int .i64 5, .int .i64 5, .int .i64 100, .slice L 5 lc] 24)).alloc (.cells #[.slice (some ⟨b1, 0, none⟩) 1 1, .slice (some ⟨b2, 0, none⟩) 1 1] 80)).alloc (.cells #[.int .i64 20, .int .i64 20, .int .i64 10, .int .i64 20, .bool false] 82)).alloc (.cells #[.int .i64 1000, .slice A1 1 c1, .slice none 0 0, .slice none 0 0, .bool false] 89)).alloc (.cells #[.int .i64 0, .slice none 0 0, .slice none 0 0, .slice none 0 0, .bool false] 89)) = Z := ⟨_, rfl⟩
  have k1 : Below w.heap.size w w1 := by rw [← hw1]; exact ((((((Below.refl _ _).alloc (Nat.le_refl _) _).alloc (by simp) _).alloc (by simp; omega) _).alloc (by simp; omega) _).alloc (by simp; omega) _)
  have z1 : Z + 1 + 1 + 1 + 1 < w1.heap.size := by rw [← hw1, ← hZ]; simp
  have y1 : w.heap.size = Z := hZ
  have gb_1 : HasO w1 (Z) (.cells #[.int .i64 5, .int .i64 5, .int .i64 100, .slice L 5 lc] 24 (0, 0)) := by rw [← hw1, ← hZ]; have h := (HasO.alloc (HasO.alloc (HasO.alloc (HasO.alloc (HasO.new (w := w) (o := .cells #[.int .i64 5, .int .i64 5, .int .i64 100, .slice L 5 lc] 24) rfl) (.cells #[.slice (some ⟨b1, 0, none⟩) 1 1, .slice (some ⟨b2, 0, none⟩) 1 1] 80)) (.cells #[.int .i64 20, .int .i64 20, .int .i64 10, .int .i64 20, .bool false] 82)) (.cells #[.int .i64 1000, .slice A1 1 c1, .slice none 0 0, .slice none 0 0, .bool false] 89)) (.cells #[.int .i64 0, .slice none 0 0, .slice none 0 0, .slice none 0 0, .bool false] 89)); simpa only [World.size_alloc] using h
  have fb_1 : HasO w1 (Z + 1) (.cells #[.slice (some ⟨b1, 0, none⟩) 1 1, .slice (some ⟨b2, 0, none⟩) 1 1] 80 (0, 0)) := by rw [← hw1, ← hZ]; have h := (HasO.alloc (HasO.alloc (HasO.alloc (HasO.new (w := (w.alloc (.cells #[.int .i64 5, .int .i64 5, .int .i64 100, .slice L 5 lc] 24))) (o := .cells #[.slice (some ⟨b1, 0, none⟩) 1 1, .slice (some ⟨b2, 0, none⟩) 1 1] 80) rfl) (.cells #[.int .i64 20, .int .i64 20, .int .i64 10, .int .i64 20, .bool false] 82)) (.cells #[.int .i64 1000, .slice A1 1 c1, .slice none 0 0, .slice none 0 0, .bool false] 89)) (.cells #[.int .i64 0, .slice none 0 0, .slice none 0 0, .slice none 0 0, .bool false] 89)); simpa only [World.size_alloc] using h
  have db_1 : HasO w1 (Z + 1 + 1) (.cells #[.int .i64 20, .int .i64 20, .int .i64 10, .int .i64 20, .bool false] 82 (0, 0)) := by rw [← hw1, ← hZ]; have h := (HasO.alloc (HasO.alloc (HasO.new (w := ((w.alloc (.cells #[.int .i64 5, .int .i64 5, .int .i64 100, .slice L 5 lc] 24)).alloc (.cells #[.slice (some ⟨b1, 0, none⟩) 1 1, .slice (some ⟨b2, 0, none⟩) 1 1] 80))) (o := .cells #[.int .i64 20, .int .i64 20, .int .i64 10, .int .i64 20, .bool false] 82) rfl) (.cells #[.int .i64 1000, .slice A1 1 c1, .slice none 0 0, .slice none 0 0, .bool false] 89)) (.cells #[.int .i64 0, .slice none 0 0, .slice none 0 0, .slice none 0 0, .bool false] 89)); simpa only [World.size_alloc] using h
  have pat_1 : HasO w1 (Z + 1 + 1 + 1) (.cells #[.int .i64 1000, .slice A1 1 c1, .slice none 0 0, .slice none 0 0, .bool false] 89 (0, 0)) := by rw [← hw1, ← hZ]; have h := (HasO.alloc (HasO.new (w := (((w.alloc (.cells #[.int .i64 5, .int .i64 5, .int .i64 100, .slice L 5 lc] 24)).alloc (.cells #[.slice (some ⟨b1, 0, none⟩) 1 1, .slice (some ⟨b2, 0, none⟩) 1 1] 80)).alloc (.cells #[.int .i64 20, .int .i64 20, .int .i64 10, .int .i64 20, .bool false] 82))) (o := .cells #[.int .i64 1000, .slice A1 1 c1, .slice none 0 0, .slice none 0 0, .bool false] 89) rfl) (.cells #[.int .i64 0, .slice none 0 0, .slice none 0 0, .slice none 0 0, .bool false] 89)); simpa only [World.size_alloc] using h
  have res_1 : HasO w1 (Z + 1 + 1 + 1 + 1) (.cells #[.int .i64 0, .slice none 0 0, .slice none 0 0, .slice none 0 0, .bool false] 89 (0, 0)) := by rw [← hw1, ← hZ]; have h := (HasO.new (w := ((((w.alloc (.cells #[.int .i64 5, .int .i64 5, .int .i64 100, .slice L 5 lc] 24)).alloc (.cells #[.slice (some ⟨b1, 0, none⟩) 1 1, .slice (some ⟨b2, 0, none⟩) 1 1] 80)).alloc (.cells #[.int .i64 20, .int .i64 20, .int .i64 10, .int .i64 20, .bool false] 82)).alloc (.cells #[.int .i64 1000, .slice A1 1 c1, .slice none 0 0, .slice none 0 0, .bool false] 89))) (o := .cells #[.int .i64 0, .slice none 0 0, .slice none 0 0, .slice none 0 0, .bool false] 89) rfl); simpa only [World.size_alloc] using h
  (try rw [hw1]); (try rw [hZ])
  clear hw1 hZ
  have S1 := k1.size
  have HB_1 := Lib.hid (HB_0.out.below k1)
  have H1_1 := Lib.hid (H1_0.out.below k1)
  have BB1 := Lib.hid (BB0.out.trans (k1.mono BB0.out.size))
  clear k1 HB_0 H1_0 BB0
  have gbH_1 := Lib.hid gb_1
  clear gb_1
  have fbH_1 := Lib.hid fb_1
  clear fb_1
  have dbH_1 := Lib.hid db_1
  clear db_1
  have patH_1 := Lib.hid pat_1
  clear pat_1
  have resH_1 := Lib.hid res_1
  clear res_1
  have q1gb0 := HasO.cell (i := 0) gbH_1.out rfl
  have q1gb1 := HasO.cell (i := 1) gbH_1.out rfl
  have q1gb2 := HasO.cell (i := 2) gbH_1.out rfl
  have q1gb3 := HasO.cell (i := 3) gbH_1.out rfl
  have q1fb0 := HasO.cell (i := 0) fbH_1.out rfl
  have q1fb1 := HasO.cell (i := 1) fbH_1.out rfl
  have q1db0 := HasO.cell (i := 0) dbH_1.out rfl
  have q1db1 := HasO.cell (i := 1) dbH_1.out rfl
  have q1db2 := HasO.cell (i := 2) dbH_1.out rfl
  have q1db3 := HasO.cell (i := 3) dbH_1.out rfl
  have q1db4 := HasO.cell (i := 4) dbH_1.out rfl
  go_upto_region 2 with fail
  clear q1gb0 q1gb1 q1gb2 q1gb3 q1fb0 q1fb1 q1db0 q1db1 q1db2 q1db3 q1db4
  obtain ⟨P, hP⟩ : ∃ Z, w1.heap.size = Z := ⟨_, rfl⟩
  obtain ⟨w2, hw2⟩ : ∃ Z, (w1.alloc (.cells #[.int .i64 5, .int .i64 5, .int .i64 100, .slice L 5 lc, .slice (some ⟨b1, 0, none⟩) 1 1, .slice (some ⟨b2, 0, none⟩) 1 1, .int .i64 20, .int .i64 20, .int .i64 10, .int .i64 20, .bool false] 165)) = Z := ⟨_, rfl⟩
  have k2 : Below w1.heap.size w1 w2 := by rw [← hw2]; exact ((Below.refl _ _).alloc (Nat.le_refl _) _)
  have z2 : P < w2.heap.size := by rw [← hw2, ← hP]; simp
  have y2 : w1.heap.size = P := hP
  have sea_2 : HasO w2 (P) (.cells #[.int .i64 5, .int .i64 5, .int .i64 100, .slice L 5 lc, .slice (some ⟨b1, 0, none⟩) 1 1, .slice (some ⟨b2, 0, none⟩) 1 1, .int .i64 20, .int .i64 20, .int .i64 10, .int .i64 20, .bool false] 165 (0, 0)) := by rw [← hw2, ← hP]; have h := (HasO.new (w := w1) (o := .cells #[.int .i64 5, .int .i64 5, .int .i64 100, .slice L 5 lc, .slice (some ⟨b1, 0, none⟩) 1 1, .slice (some ⟨b2, 0, none⟩) 1 1, .int .i64 20, .int .i64 20, .int .i64 10, .int .i64 20, .bool false] 165) rfl); simpa only [World.size_alloc] using h
  (try rw [hw2]); (try rw [hP])
  clear hw2 hP
  have S2 := k2.size
  have HB_2 := Lib.hid (HB_1.out.below k2)
  have H1_2 := Lib.hid (H1_1.out.below k2)
  have gb_2 := Lib.hid (gbH_1.out.below k2)
  have fb_2 := Lib.hid (fbH_1.out.below k2)
  have db_2 := Lib.hid (dbH_1.out.below k2)
  have pat_2 := Lib.hid (patH_1.out.below k2)
  have res_2 := Lib.hid (resH_1.out.below k2)
  have BB2 := Lib.hid (BB1.out.trans (k2.mono BB1.out.size))
  clear k2 HB_1 H1_1 gbH_1 fbH_1 dbH_1 patH_1 resH_1 BB1
  have seaH_2 := Lib.hid sea_2
  clear sea_2
  have q2sea0 := HasO.cell (i := 0) seaH_2.out rfl
  have q2sea1 := HasO.cell (i := 1) seaH_2.out rfl
  have q2sea2 := HasO.cell (i := 2) seaH_2.out rfl
  have q2sea3 := HasO.cell (i := 3) seaH_2.out rfl
  have q2sea4 := HasO.cell (i := 4) seaH_2.out rfl
  have q2sea5 := HasO.cell (i := 5) seaH_2.out rfl
  have q2sea6 := HasO.cell (i := 6) seaH_2.out rfl
  have q2sea7 := HasO.cell (i := 7) seaH_2.out rfl
  have q2sea8 := HasO.cell (i := 8) seaH_2.out rfl
  have q2sea9 := HasO.cell (i := 9) seaH_2.out rfl
  have q2sea10 := HasO.cell (i := 10) seaH_2.out rfl
  go_wp2_with fail
  refine (right_dn L A lc b1 b2 ca 1000 _ HB_2.out (by decide)).mono ?_
  rintro e w3 ⟨rfl, hb3⟩
  have k3 : Below w2.heap.size w2 w3 := hb3
  clear hb3
  have S3 := k3.size
  have HB_3 := Lib.hid (HB_2.out.below k3)
  have H1_3 := Lib.hid (H1_2.out.below k3)
  have gb_3 := Lib.hid (gb_2.out.below k3)
  have fb_3 := Lib.hid (fb_2.out.below k3)
  have db_3 := Lib.hid (db_2.out.below k3)
  have pat_3 := Lib.hid (pat_2.out.below k3)
  have res_3 := Lib.hid (res_2.out.below k3)
  have sea_3 := Lib.hid (seaH_2.out.below k3)
  have BB3 := Lib.hid (BB2.out.trans (k3.mono BB2.out.size))
  clear k3 HB_2 H1_2 gb_2 fb_2 db_2 pat_2 res_2 seaH_2 BB2
  clear q2sea0 q2sea1 q2sea2 q2sea3 q2sea4 q2sea5 q2sea6 q2sea7 q2sea8 q2sea9 q2sea10
  have q3gb0 := HasO.cell (i := 0) gb_3.out rfl
  have q3gb1 := HasO.cell (i := 1) gb_3.out rfl
  have q3gb2 := HasO.cell (i := 2) gb_3.out rfl
  have q3gb3 := HasO.cell (i := 3) gb_3.out rfl
  have q3pat0 := HasO.cell (i := 0) pat_3.out rfl
  have q3pat1 := HasO.cell (i := 1) pat_3.out rfl
  have q3pat2 := HasO.cell (i := 2) pat_3.out rfl
  have q3pat3 := HasO.cell (i := 3) pat_3.out rfl
  have q3pat4 := HasO.cell (i := 4) pat_3.out rfl
  go_wp2_with fail
  refine (checkPatch_dn 1000 false L A1 none lc 1 0 c1 0 [(2, 2, 3)] [] _ HB_3.out.1 H1_3.out (Lst.nil _) (by decide) afl_c afl_n).mono ?_
  rintro e w4 ⟨rfl, hb4⟩
  have k4 : Below w3.heap.size w3 w4 := hb4
  clear hb4
  have S4 := k4.size
  have HB_4 := Lib.hid (HB_3.out.below k4)
  have H1_4 := Lib.hid (H1_3.out.below k4)
  have gb_4 := Lib.hid (gb_3.out.below k4)
  have fb_4 := Lib.hid (fb_3.out.below k4)
  have db_4 := Lib.hid (db_3.out.below k4)
  have pat_4 := Lib.hid (pat_3.out.below k4)
  have res_4 := Lib.hid (res_3.out.below k4)
  have sea_4 := Lib.hid (sea_3.out.below k4)
  have BB4 := Lib.hid (BB3.out.trans (k4.mono BB3.out.size))
  clear k4 HB_3 H1_3 gb_3 fb_3 db_3 pat_3 res_3 sea_3 BB3
  clear q3gb0 q3gb1 q3gb2 q3gb3 q3pat0 q3pat1 q3pat2 q3pat3 q3pat4
  have q4sea0 := HasO.cell (i := 0) sea_4.out rfl
  have q4sea1 := HasO.cell (i := 1) sea_4.out rfl
  have q4sea2 := HasO.cell (i := 2) sea_4.out rfl
  have q4sea3 := HasO.cell (i := 3) sea_4.out rfl
  have q4sea4 := HasO.cell (i := 4) sea_4.out rfl
  have q4sea5 := HasO.cell (i := 5) sea_4.out rfl
  have q4sea6 := HasO.cell (i := 6) sea_4.out rfl
  have q4sea7 := HasO.cell (i := 7) sea_4.out rfl
  have q4sea8 := HasO.cell (i := 8) sea_4.out rfl
  have q4sea9 := HasO.cell (i := 9) sea_4.out rfl
  have q4sea10 := HasO.cell (i := 10) sea_4.out rfl
  have q4pat0 := HasO.cell (i := 0) pat_4.out rfl
  have q4pat1 := HasO.cell (i := 1) pat_4.out rfl
  have q4pat2 := HasO.cell (i := 2) pat_4.out rfl
  have q4pat3 := HasO.cell (i := 3) pat_4.out rfl
  have q4pat4 := HasO.cell (i := 4) pat_4.out rfl
  go_wp2_with fail
  refine (before_dn L A A1 lc b1 b2 ca c1 _ HB_4.out H1_4.out).mono ?_
  rintro e w5 ⟨⟨P0, P1, P2, k0, k1, k2, e0, e1, e2, rfl, hr0, hr1, hr2⟩, hb5⟩
  have k5 : Below w4.heap.size w4 w5 := hb5
  clear hb5
  have S5 := k5.size
  have HB_5 := Lib.hid (HB_4.out.below k5)
  have H1_5 := Lib.hid (H1_4.out.below k5)
  have gb_5 := Lib.hid (gb_4.out.below k5)
  have fb_5 := Lib.hid (fb_4.out.below k5)
  have db_5 := Lib.hid (db_4.out.below k5)
  have pat_5 := Lib.hid (pat_4.out.below k5)
  have res_5 := Lib.hid (res_4.out.below k5)
  have sea_5 := Lib.hid (sea_4.out.below k5)
  have BB5 := Lib.hid (BB4.out.trans (k5.mono BB4.out.size))
  clear k5 HB_4 H1_4 gb_4 fb_4 db_4 pat_4 res_4 sea_4 BB4
  clear q4sea0 q4sea1 q4sea2 q4sea3 q4sea4 q4sea5 q4sea6 q4sea7 q4sea8 q4sea9 q4sea10 q4pat0 q4pat1 q4pat2 q4pat3 q4pat4
  have r0_h5 := Lib.hid (hr0)
  have r1_h5 := Lib.hid (hr1)
  have r2_h5 := Lib.hid (hr2)
  clear hr0 hr1 hr2
  clear gb_5
  clear fb_5
  clear db_5
  clear pat_5
  clear sea_5
  have q5res0 := HasO.cell (i := 0) res_5.out rfl
  have q5resf0 := HasO.frozen (i := 0) res_5.out
  have q5res1 := HasO.cell (i := 1) res_5.out rfl
  have q5resf1 := HasO.frozen (i := 1) res_5.out
  have q5res2 := HasO.cell (i := 2) res_5.out rfl
  have q5resf2 := HasO.frozen (i := 2) res_5.out
  have q5res3 := HasO.cell (i := 3) res_5.out rfl
  have q5resf3 := HasO.frozen (i := 3) res_5.out
  have q5res4 := HasO.cell (i := 4) res_5.out rfl
  have q5resf4 := HasO.frozen (i := 4) res_5.out
  go_wp2_with fail
  have X5 : Xm (Z + 1 + 1 + 1 + 1) w5 (((((w5.setCell ⟨Z + 1 + 1 + 1 + 1, 0, none⟩ (.int .i64 0)).setCell ⟨Z + 1 + 1 + 1 + 1, 1, none⟩ (.slice P0 k0 e0)).setCell ⟨Z + 1 + 1 + 1 + 1, 2, none⟩ (.slice P1 k1 e1)).setCell ⟨Z + 1 + 1 + 1 + 1, 3, none⟩ (.slice P2 k2 e2)).setCell ⟨Z + 1 + 1 + 1 + 1, 4, none⟩ (.bool false)) := ((((((Xm.refl (Z + 1 + 1 + 1 + 1) w5).trans (Xm.set w5 (.int .i64 0))).trans (Xm.set (w5.setCell ⟨Z + 1 + 1 + 1 + 1, 0, none⟩ (.int .i64 0)) (.slice P0 k0 e0))).trans (Xm.set ((w5.setCell ⟨Z + 1 + 1 + 1 + 1, 0, none⟩ (.int .i64 0)).setCell ⟨Z + 1 + 1 + 1 + 1, 1, none⟩ (.slice P0 k0 e0)) (.slice P1 k1 e1))).trans (Xm.set (((w5.setCell ⟨Z + 1 + 1 + 1 + 1, 0, none⟩ (.int .i64 0)).setCell ⟨Z + 1 + 1 + 1 + 1, 1, none⟩ (.slice P0 k0 e0)).setCell ⟨Z + 1 + 1 + 1 + 1, 2, none⟩ (.slice P1 k1 e1)) (.slice P2 k2 e2))).trans (Xm.set ((((w5.setCell ⟨Z + 1 + 1 + 1 + 1, 0, none⟩ (.int .i64 0)).setCell ⟨Z + 1 + 1 + 1 + 1, 1, none⟩ (.slice P0 k0 e0)).setCell ⟨Z + 1 + 1 + 1 + 1, 2, none⟩ (.slice P1 k1 e1)).setCell ⟨Z + 1 + 1 + 1 + 1, 3, none⟩ (.slice P2 k2 e2)) (.bool false)))
  have H5 : HasO (((((w5.setCell ⟨Z + 1 + 1 + 1 + 1, 0, none⟩ (.int .i64 0)).setCell ⟨Z + 1 + 1 + 1 + 1, 1, none⟩ (.slice P0 k0 e0)).setCell ⟨Z + 1 + 1 + 1 + 1, 2, none⟩ (.slice P1 k1 e1)).setCell ⟨Z + 1 + 1 + 1 + 1, 3, none⟩ (.slice P2 k2 e2)).setCell ⟨Z + 1 + 1 + 1 + 1, 4, none⟩ (.bool false)) (Z + 1 + 1 + 1 + 1) (.cells #[.int .i64 0, .slice P0 k0 e0, .slice P1 k1 e1, .slice P2 k2 e2, .bool false] 89 (0, 0)) := (HasO.set (i := 4) (v := .bool false) (HasO.set (i := 3) (v := .slice P2 k2 e2) (HasO.set (i := 2) (v := .slice P1 k1 e1) (HasO.set (i := 1) (v := .slice P0 k0 e0) (HasO.set (i := 0) (v := .int .i64 0) res_5.out)))))
  generalize (((((w5.setCell ⟨Z + 1 + 1 + 1 + 1, 0, none⟩ (.int .i64 0)).setCell ⟨Z + 1 + 1 + 1 + 1, 1, none⟩ (.slice P0 k0 e0)).setCell ⟨Z + 1 + 1 + 1 + 1, 2, none⟩ (.slice P1 k1 e1)).setCell ⟨Z + 1 + 1 + 1 + 1, 3, none⟩ (.slice P2 k2 e2)).setCell ⟨Z + 1 + 1 + 1 + 1, 4, none⟩ (.bool false)) = W5 at X5 H5 ⊢
  have f0 := HasO.cell (i := 0) H5 rfl
  have f1 := HasO.cell (i := 1) H5 rfl
  have f2 := HasO.cell (i := 2) H5 rfl
  have f3 := HasO.cell (i := 3) H5 rfl
  have f4 := HasO.cell (i := 4) H5 rfl
  refine bodyPost_ret (v := .tuple #[.agg #[.int .i64 0, .slice P0 k0 e0, .slice P1 k1 e1, .slice P2 k2 e2, .bool false], .int .i64 0]) (by simp [results, Try.results47, go_sem, f0, f1, f2, f3, f4]) rfl ?_
  exact ⟨⟨P0, P1, P2, k0, k1, k2, e0, e1, e2, rfl, Runs.xmPatch r0_h5.out res_5.out X5, Runs.xmPatch r1_h5.out res_5.out X5, Runs.xmPatch r2_h5.out res_5.out X5⟩, BB5.out.trans (X5.below (B := w.heap.size) (by omega) (by omega))⟩

set_option maxRecDepth 100000 in
set_option maxHeartbeats 16000000 in
theorem Before_early (L A A1 : Option Addr) (lc b1 b2 ca c1 : Nat) (w : World) (hB : Bay w L lc b1 b2 A ca) (h1 : Runs w (.slice A1 1 c1) [(2, 2, 3)]) :
    Calls Try.prog 47 #[.agg #[.int .i64 5, .int .i64 5, .int .i64 100, .slice L 5 lc], .agg #[.slice (some ⟨b1, 0, none⟩) 1 1, .slice (some ⟨b2, 0, none⟩) 1 1], .agg #[.int .i64 20, .int .i64 20, .int .i64 10, .int .i64 20, .bool false], .agg #[.int .i64 999, .slice A1 1 c1, .slice none 0 0, .slice none 0 0, .bool false], .int .i64 1000] w fun e w' => e = .returned (.tuple #[.agg #[.int .i64 0, .slice none 0 0, .slice none 0 0, .slice none 0 0, .bool false], .int .i64 4]) ∧ Below w.heap.size w w' := by
  have HB_0 := Lib.hid hB
  have H1_0 := Lib.hid h1
  have BB0 := Lib.hid (Below.refl w.heap.size w)
  clear hB h1
  go_enter Try.func47, Try.ntmps47
  go_upto_region 1 with fail
  obtain ⟨Z, hZ⟩ : ∃ Z, w.heap.size = Z := ⟨_, rfl⟩
  obtain ⟨w1, hw1⟩ : ∃ Z, (((((w.alloc (.cells #[.int .i64 5, .int .i64 5, .int .i64 100, .slice L 5 lc] 24)).alloc (.cells #[.slice (some ⟨b1, 0, none⟩) 1 1, .slice (some ⟨b2, 0, none⟩) 1 1] 80)).alloc (.cells #[.int .i64 20, .int .i64 20, .int .i64 10, .int .i64 20, .bool false] 82)).alloc (.cells #[.int .i64 999, .slice A1 1 c1, .slice none 0 0, .slice none 0 0, .bool false] 89)).alloc (.cells #[.int .i64 0, .slice none 0 0, .slice none 0 0, .slice none 0 0, .bool false] 89)) = Z := ⟨_, rfl⟩
  have k1 : Below w.heap.size w w1 := by rw [← hw1]; exact ((((((Below.refl _ _).alloc (Nat.le_refl _) _).alloc (by simp) _).alloc (by simp; omega) _).alloc (by simp; omega) _).alloc (by simp; omega) _)
  have z1 : Z + 1 + 1 + 1 + 1 < w1.heap.size := by rw [← hw1, ← hZ]; simp
  have y1 : w.heap.size = Z := hZ
  have gb_1 : HasO w1 (Z) (.cells #[.int .i64 5, .int .i64 5, .int .i64 100, .slice L 5 lc] 24 (0, 0)) := by rw [← hw1, ← hZ]; have h := (HasO.alloc (HasO.alloc (HasO.alloc (HasO.alloc (HasO.new (w := w) (o := .cells #[.int .i64 5, .int .i64 5, .int .i64 100, .slice L 5 lc] 24) rfl) (.cells #[.slice (some ⟨b1, 0, none⟩) 1 1, .slice (some ⟨b2, 0, none⟩) 1 1] 80)) (.cells #[.int .i64 20, .int .i64 20, .int .i64 10, .int .i64 20, .bool false] 82)) (.cells #[.int .i64 999, .slice A1 1 c1, .slice none 0 0, .slice none 0 0, .bool false] 89)) (.cells #[.int .i64 0, .slice none 0 0, .slice none 0 0, .slice none 0 0, .bool false] 89)); simpa only [World.size_alloc] using h
  have fb_1 : HasO w1 (Z + 1) (.cells #[.slice (some ⟨b1, 0, none⟩) 1 1, .slice (some ⟨b2, 0, none⟩) 1 1] 80 (0, 0)) := by rw [← hw1, ← hZ]; have h := (HasO.alloc (HasO.alloc (HasO.alloc (HasO.new (w := (w.alloc (.cells #[.int .i64 5, .int .i64 5, .int .i64 100, .slice L 5 lc] 24))) (o := .cells #[.slice (some ⟨b1, 0, none⟩) 1 1, .slice (some ⟨b2, 0, none⟩) 1 1] 80) rfl) (.cells #[.int .i64 20, .int .i64 20, .int .i64 10, .int .i64 20, .bool false] 82)) (.cells #[.int .i64 999, .slice A1 1 c1, .slice none 0 0, .slice none 0 0, .bool false] 89)) (.cells #[.int .i64 0, .slice none 0 0, .slice none 0 0, .slice none 0 0, .bool false] 89)); simpa only [World.size_alloc] using h
  have db_1 : HasO w1 (Z + 1 + 1) (.cells #[.int .i64 20, .int .i64 20, .int .i64 10, .int .i64 20, .bool false] 82 (0, 0)) := by rw [← hw1, ← hZ]; have h := (HasO.alloc (HasO.alloc (HasO.new (w := ((w.alloc (.cells #[.int .i64 5, .int .i64 5, .int .i64 100, .slice L 5 lc] 24)).alloc (.cells #[.slice (some ⟨b1, 0, none⟩) 1 1, .slice (some ⟨b2, 0, none⟩) 1 1] 80))) (o := .cells #[.int .i64 20, .int .i64 20, .int .i64 10, .int .i64 20, .bool false] 82) rfl) (.cells #[.int .i64 999, .slice A1 1 c1, .slice none 0 0, .slice none 0 0, .bool false] 89)) (.cells #[.int .i64 0, .slice none 0 0, .slice none 0 0, .slice none 0 0, .bool false] 89)); simpa only [World.size_alloc] using h
  have pat_1 : HasO w1 (Z + 1 + 1 + 1) (.cells #[.int .i64 999, .slice A1 1 c1, .slice none 0 0, .slice none 0 0, .bool false] 89 (0, 0)) := by rw [← hw1, ← hZ]; have h := (HasO.alloc (HasO.new (w := (((w.alloc (.cells #[.int .i64 5, .int .i64 5, .int .i64 100, .slice L 5 lc] 24)).alloc (.cells #[.slice (some ⟨b1, 0, none⟩) 1 1, .slice (some ⟨b2, 0, none⟩) 1 1] 80)).alloc (.cells #[.int .i64 20, .int .i64 20, .int .i64 10, .int .i64 20, .bool false] 82))) (o := .cells #[.int .i64 999, .slice A1 1 c1, .slice none 0 0, .slice none 0 0, .bool false] 89) rfl) (.cells #[.int .i64 0, .slice none 0 0, .slice none 0 0, .slice none 0 0, .bool false] 89)); simpa only [World.size_alloc] using h
  have res_1 : HasO w1 (Z + 1 + 1 + 1 + 1) (.cells #[.int .i64 0, .slice none 0 0, .slice none 0 0, .slice none 0 0, .bool false] 89 (0, 0)) := by rw [← hw1, ← hZ]; have h := (HasO.new (w := ((((w.alloc (.cells #[.int .i64 5, .int .i64 5, .int .i64 100, .slice L 5 lc] 24)).alloc (.cells #[.slice (some ⟨b1, 0, none⟩) 1 1, .slice (some ⟨b2, 0, none⟩) 1 1] 80)).alloc (.cells #[.int .i64 20, .int .i64 20, .int .i64 10, .int .i64 20, .bool false] 82)).alloc (.cells #[.int .i64 999, .slice A1 1 c1, .slice none 0 0, .slice none 0 0, .bool false] 89))) (o := .cells #[.int .i64 0, .slice none 0 0, .slice none 0 0, .slice none 0 0, .bool false] 89) rfl); simpa only [World.size_alloc] using h
  (try rw [hw1]); (try rw [hZ])
  clear hw1 hZ
  have S1 := k1.size
  have HB_1 := Lib.hid (HB_0.out.below k1)
  have H1_1 := Lib.hid (H1_0.out.below k1)
  have BB1 := Lib.hid (BB0.out.trans (k1.mono BB0.out.size))
  clear k1 HB_0 H1_0 BB0
  have gbH_1 := Lib.hid gb_1
  clear gb_1
  have fbH_1 := Lib.hid fb_1
  clear fb_1
  have dbH_1 := Lib.hid db_1
  clear db_1
  have patH_1 := Lib.hid pat_1
  clear pat_1
  have resH_1 := Lib.hid res_1
  clear res_1
  have q1gb0 := HasO.cell (i := 0) gbH_1.out rfl
  have q1gb1 := HasO.cell (i := 1) gbH_1.out rfl
  have q1gb2 := HasO.cell (i := 2) gbH_1.out rfl
  have q1gb3 := HasO.cell (i := 3) gbH_1.out rfl
  have q1fb0 := HasO.cell (i := 0) fbH_1.out rfl
  have q1fb1 := HasO.cell (i := 1) fbH_1.out rfl
  have q1db0 := HasO.cell (i := 0) dbH_1.out rfl
  have q1db1 := HasO.cell (i := 1) dbH_1.out rfl
  have q1db2 := HasO.cell (i := 2) dbH_1.out rfl
  have q1db3 := HasO.cell (i := 3) dbH_1.out rfl
  have q1db4 := HasO.cell (i := 4) dbH_1.out rfl
  go_upto_region 2 with fail
  clear q1gb0 q1gb1 q1gb2 q1gb3 q1fb0 q1fb1 q1db0 q1db1 q1db2 q1db3 q1db4
  obtain ⟨P, hP⟩ : ∃ Z, w1.heap.size = Z := ⟨_, rfl⟩
  obtain ⟨w2, hw2⟩ : ∃ Z, (w1.alloc (.cells #[.int .i64 5, .int .i64 5, .int .i64 100, .slice L 5 lc, .slice (some ⟨b1, 0, none⟩) 1 1, .slice (some ⟨b2, 0, none⟩) 1 1, .int .i64 20, .int .i64 20, .int .i64 10, .int .i64 20, .bool false] 165)) = Z := ⟨_, rfl⟩
  have k2 : Below w1.heap.size w1 w2 := by rw [← hw2]; exact ((Below.refl _ _).alloc (Nat.le_refl _) _)
  have z2 : P < w2.heap.size := by rw [← hw2, ← hP]; simp
  have y2 : w1.heap.size = P := hP
  have sea_2 : HasO w2 (P) (.cells #[.int .i64 5, .int .i64 5, .int .i64 100, .slice L 5 lc, .slice (some ⟨b1, 0, none⟩) 1 1, .slice (some ⟨b2, 0, none⟩) 1 1, .int .i64 20, .int .i64 20, .int .i64 10, .int .i64 20, .bool false] 165 (0, 0)) := by rw [← hw2, ← hP]; have h := (HasO.new (w := w1) (o := .cells #[.int .i64 5, .int .i64 5, .int .i64 100, .slice L 5 lc, .slice (some ⟨b1, 0, none⟩) 1 1, .slice (some ⟨b2, 0, none⟩) 1 1, .int .i64 20, .int .i64 20, .int .i64 10, .int .i64 20, .bool false] 165) rfl); simpa only [World.size_alloc] using h
  (try rw [hw2]); (try rw [hP])
  clear hw2 hP
  have S2 := k2.size
  have HB_2 := Lib.hid (HB_1.out.below k2)
  have H1_2 := Lib.hid (H1_1.out.below k2)
  have gb_2 := Lib.hid (gbH_1.out.below k2)
  have fb_2 := Lib.hid (fbH_1.out.below k2)
  have db_2 := Lib.hid (dbH_1.out.below k2)
  have pat_2 := Lib.hid (patH_1.out.below k2)
  have res_2 := Lib.hid (resH_1.out.below k2)
  have BB2 := Lib.hid (BB1.out.trans (k2.mono BB1.out.size))
  clear k2 HB_1 H1_1 gbH_1 fbH_1 dbH_1 patH_1 resH_1 BB1
  have seaH_2 := Lib.hid sea_2
  clear sea_2
  have q2sea0 := HasO.cell (i := 0) seaH_2.out rfl
  have q2sea1 := HasO.cell (i := 1) seaH_2.out rfl
  have q2sea2 := HasO.cell (i := 2) seaH_2.out rfl
  have q2sea3 := HasO.cell (i := 3) seaH_2.out rfl
  have q2sea4 := HasO.cell (i := 4) seaH_2.out rfl
  have q2sea5 := HasO.cell (i := 5) seaH_2.out rfl
  have q2sea6 := HasO.cell (i := 6) seaH_2.out rfl
  have q2sea7 := HasO.cell (i := 7) seaH_2.out rfl
  have q2sea8 := HasO.cell (i := 8) seaH_2.out rfl
  have q2sea9 := HasO.cell (i := 9) seaH_2.out rfl
  have q2sea10 := HasO.cell (i := 10) seaH_2.out rfl
  go_wp2_with fail
  refine (right_dn L A lc b1 b2 ca 1000 _ HB_2.out (by decide)).mono ?_
  rintro e w3 ⟨rfl, hb3⟩
  have k3 : Below w2.heap.size w2 w3 := hb3
  clear hb3
  have S3 := k3.size
  have HB_3 := Lib.hid (HB_2.out.below k3)
  have H1_3 := Lib.hid (H1_2.out.below k3)
  have gb_3 := Lib.hid (gb_2.out.below k3)
  have fb_3 := Lib.hid (fb_2.out.below k3)
  have db_3 := Lib.hid (db_2.out.below k3)
  have pat_3 := Lib.hid (pat_2.out.below k3)
  have res_3 := Lib.hid (res_2.out.below k3)
  have sea_3 := Lib.hid (seaH_2.out.below k3)
  have BB3 := Lib.hid (BB2.out.trans (k3.mono BB2.out.size))
  clear k3 HB_2 H1_2 gb_2 fb_2 db_2 pat_2 res_2 seaH_2 BB2
  clear q2sea0 q2sea1 q2sea2 q2sea3 q2sea4 q2sea5 q2sea6 q2sea7 q2sea8 q2sea9 q2sea10
  have q3gb0 := HasO.cell (i := 0) gb_3.out rfl
  have q3gb1 := HasO.cell (i := 1) gb_3.out rfl
  have q3gb2 := HasO.cell (i := 2) gb_3.out rfl
  have q3gb3 := HasO.cell (i := 3) gb_3.out rfl
  have q3pat0 := HasO.cell (i := 0) pat_3.out rfl
  have q3pat1 := HasO.cell (i := 1) pat_3.out rfl
  have q3pat2 := HasO.cell (i := 2) pat_3.out rfl
  have q3pat3 := HasO.cell (i := 3) pat_3.out rfl
  have q3pat4 := HasO.cell (i := 4) pat_3.out rfl
  go_wp2_with fail
  refine (checkPatch_dn 999 false L A1 none lc 1 0 c1 0 [(2, 2, 3)] [] _ HB_3.out.1 H1_3.out (Lst.nil _) (by decide) afl_c afl_n).mono ?_
  rintro e w4 ⟨rfl, hb4⟩
  have k4 : Below w3.heap.size w3 w4 := hb4
  clear hb4
  have S4 := k4.size
  have HB_4 := Lib.hid (HB_3.out.below k4)
  have H1_4 := Lib.hid (H1_3.out.below k4)
  have gb_4 := Lib.hid (gb_3.out.below k4)
  have fb_4 := Lib.hid (fb_3.out.below k4)
  have db_4 := Lib.hid (db_3.out.below k4)
  have pat_4 := Lib.hid (pat_3.out.below k4)
  have res_4 := Lib.hid (res_3.out.below k4)
  have sea_4 := Lib.hid (sea_3.out.below k4)
  have BB4 := Lib.hid (BB3.out.trans (k4.mono BB3.out.size))
  clear k4 HB_3 H1_3 gb_3 fb_3 db_3 pat_3 res_3 sea_3 BB3
  clear q3gb0 q3gb1 q3gb2 q3gb3 q3pat0 q3pat1 q3pat2 q3pat3 q3pat4
  have q4sea0 := HasO.cell (i := 0) sea_4.out rfl
  have q4sea1 := HasO.cell (i := 1) sea_4.out rfl
  have q4sea2 := HasO.cell (i := 2) sea_4.out rfl
  have q4sea3 := HasO.cell (i := 3) sea_4.out rfl
  have q4sea4 := HasO.cell (i := 4) sea_4.out rfl
  have q4sea5 := HasO.cell (i := 5) sea_4.out rfl
  have q4sea6 := HasO.cell (i := 6) sea_4.out rfl
  have q4sea7 := HasO.cell (i := 7) sea_4.out rfl
  have q4sea8 := HasO.cell (i := 8) sea_4.out rfl
  have q4sea9 := HasO.cell (i := 9) sea_4.out rfl
  have q4sea10 := HasO.cell (i := 10) sea_4.out rfl
  have q4pat0 := HasO.cell (i := 0) pat_4.out rfl
  have q4pat1 := HasO.cell (i := 1) pat_4.out rfl
  have q4pat2 := HasO.cell (i := 2) pat_4.out rfl
  have q4pat3 := HasO.cell (i := 3) pat_4.out rfl
  have q4pat4 := HasO.cell (i := 4) pat_4.out rfl
  go_wp2_with fail
  refine (before_early L A1 lc b1 b2 c1 _).mono ?_
  rintro e w5 ⟨rfl, hb5⟩
  have k5 : Below w4.heap.size w4 w5 := hb5
  clear hb5
  have S5 := k5.size
  have HB_5 := Lib.hid (HB_4.out.below k5)
  have H1_5 := Lib.hid (H1_4.out.below k5)
  have gb_5 := Lib.hid (gb_4.out.below k5)
  have fb_5 := Lib.hid (fb_4.out.below k5)
  have db_5 := Lib.hid (db_4.out.below k5)
  have pat_5 := Lib.hid (pat_4.out.below k5)
  have res_5 := Lib.hid (res_4.out.below k5)
  have sea_5 := Lib.hid (sea_4.out.below k5)
  have BB5 := Lib.hid (BB4.out.trans (k5.mono BB4.out.size))
  clear k5 HB_4 H1_4 gb_4 fb_4 db_4 pat_4 res_4 sea_4 BB4
  clear q4sea0 q4sea1 q4sea2 q4sea3 q4sea4 q4sea5 q4sea6 q4sea7 q4sea8 q4sea9 q4sea10 q4pat0 q4pat1 q4pat2 q4pat3 q4pat4
  clear gb_5
  clear fb_5
  clear db_5
  clear pat_5
  clear sea_5
  have q5res0 := HasO.cell (i := 0) res_5.out rfl
  have q5resf0 := HasO.frozen (i := 0) res_5.out
  have q5res1 := HasO.cell (i := 1) res_5.out rfl
  have q5resf1 := HasO.frozen (i := 1) res_5.out
  have q5res2 := HasO.cell (i := 2) res_5.out rfl
  have q5resf2 := HasO.frozen (i := 2) res_5.out
  have q5res3 := HasO.cell (i := 3) res_5.out rfl
  have q5resf3 := HasO.frozen (i := 3) res_5.out
  have q5res4 := HasO.cell (i := 4) res_5.out rfl
  have q5resf4 := HasO.frozen (i := 4) res_5.out
  go_wp2_with fail
  have X5 : Xm (Z + 1 + 1 + 1 + 1) w5 (((((w5.setCell ⟨Z + 1 + 1 + 1 + 1, 0, none⟩ (.int .i64 0)).setCell ⟨Z + 1 + 1 + 1 + 1, 1, none⟩ (.slice none 0 0)).setCell ⟨Z + 1 + 1 + 1 + 1, 2, none⟩ (.slice none 0 0)).setCell ⟨Z + 1 + 1 + 1 + 1, 3, none⟩ (.slice none 0 0)).setCell ⟨Z + 1 + 1 + 1 + 1, 4, none⟩ (.bool false)) := ((((((Xm.refl (Z + 1 + 1 + 1 + 1) w5).trans (Xm.set w5 (.int .i64 0))).trans (Xm.set (w5.setCell ⟨Z + 1 + 1 + 1 + 1, 0, none⟩ (.int .i64 0)) (.slice none 0 0))).trans (Xm.set ((w5.setCell ⟨Z + 1 + 1 + 1 + 1, 0, none⟩ (.int .i64 0)).setCell ⟨Z + 1 + 1 + 1 + 1, 1, none⟩ (.slice none 0 0)) (.slice none 0 0))).trans (Xm.set (((w5.setCell ⟨Z + 1 + 1 + 1 + 1, 0, none⟩ (.int .i64 0)).setCell ⟨Z + 1 + 1 + 1 + 1, 1, none⟩ (.slice none 0 0)).setCell ⟨Z + 1 + 1 + 1 + 1, 2, none⟩ (.slice none 0 0)) (.slice none 0 0))).trans (Xm.set ((((w5.setCell ⟨Z + 1 + 1 + 1 + 1, 0, none⟩ (.int .i64 0)).setCell ⟨Z + 1 + 1 + 1 + 1, 1, none⟩ (.slice none 0 0)).setCell ⟨Z + 1 + 1 + 1 + 1, 2, none⟩ (.slice none 0 0)).setCell ⟨Z + 1 + 1 + 1 + 1, 3, none⟩ (.slice none 0 0)) (.bool false)))
  have H5 : HasO (((((w5.setCell ⟨Z + 1 + 1 + 1 + 1, 0, none⟩ (.int .i64 0)).setCell ⟨Z + 1 + 1 + 1 + 1, 1, none⟩ (.slice none 0 0)).setCell ⟨Z + 1 + 1 + 1 + 1, 2, none⟩ (.slice none 0 0)).setCell ⟨Z + 1 + 1 + 1 + 1, 3, none⟩ (.slice none 0 0)).setCell ⟨Z + 1 + 1 + 1 + 1, 4, none⟩ (.bool false)) (Z + 1 + 1 + 1 + 1) (.cells #[.int .i64 0, .slice none 0 0, .slice none 0 0, .slice none 0 0, .bool false] 89 (0, 0)) := (HasO.set (i := 4) (v := .bool false) (HasO.set (i := 3) (v := .slice none 0 0) (HasO.set (i := 2) (v := .slice none 0 0) (HasO.set (i := 1) (v := .slice none 0 0) (HasO.set (i := 0) (v := .int .i64 0) res_5.out)))))
  generalize (((((w5.setCell ⟨Z + 1 + 1 + 1 + 1, 0, none⟩ (.int .i64 0)).setCell ⟨Z + 1 + 1 + 1 + 1, 1, none⟩ (.slice none 0 0)).setCell ⟨Z + 1 + 1 + 1 + 1, 2, none⟩ (.slice none 0 0)).setCell ⟨Z + 1 + 1 + 1 + 1, 3, none⟩ (.slice none 0 0)).setCell ⟨Z + 1 + 1 + 1 + 1, 4, none⟩ (.bool false)) = W5 at X5 H5 ⊢
  have f0 := HasO.cell (i := 0) H5 rfl
  have f1 := HasO.cell (i := 1) H5 rfl
  have f2 := HasO.cell (i := 2) H5 rfl
  have f3 := HasO.cell (i := 3) H5 rfl
  have f4 := HasO.cell (i := 4) H5 rfl
  refine bodyPost_ret (v := .tuple #[.agg #[.int .i64 0, .slice none 0 0, .slice none 0 0, .slice none 0 0, .bool false], .int .i64 4]) (by simp [results, Try.results47, go_sem, f0, f1, f2, f3, f4]) rfl ?_
  exact ⟨rfl, BB5.out.trans (X5.below (B := w.heap.size) (by omega) (by omega))⟩
end Go.Proofs.Ytnbdnnbeiohmgaa
