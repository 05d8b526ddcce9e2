/- drift: sea.step from one cell. -/
import Derived.Test.YtnbdnnbeiohmgaaDnStep1
namespace Go.Proofs.Ytnbdnnbeiohmgaa
open Go.RowKit Go.Shelf Go.Lib Go.Maps
attribute [local go_sem] Oper.semAt_some

/-- a step's example -/
structure StepC (side lo hi slo shi x y : Int) (R1 R2 : List R3) : Prop where
  side : (side = 0 ∧ lo = 50 ∧ hi = 100) ∨ (side = 1 ∧ lo = -100 ∧ hi = -50)
  one : OneC x y
  m1 : min 0 lo = slo
  m2 : max 0 hi = shi
  g1 : Grown (y, x, x + 1) 100 lo 100 hi R1 false
  g2 : Grown (y, x, x + 1) 0 slo 100 shi R2 false
  n1 : (cellsL R1).length ≤ 60000
  n2 : (cellsL R2).length ≤ 60000
theorem stepC_l : StepC 0 50 100 0 100 1 1 [(1, 2, 3), (2, 2, 3)] [(1, 1, 3), (2, 1, 3)] :=
  ⟨.inl ⟨rfl, rfl, rfl⟩, one_a, by decide, by decide, ⟨by decide +kernel, by decide +kernel, by decide +kernel, by decide +kernel, by decide +kernel, by decide +kernel, by decide +kernel⟩, ⟨by decide +kernel, by decide +kernel, by decide +kernel, by decide +kernel, by decide +kernel, by decide +kernel, by decide +kernel⟩, by decide +kernel, by decide +kernel⟩
theorem stepC_r : StepC 1 (-100) (-50) (-100) 0 3 1 [(0, 4, 5), (1, 4, 5)] [(0, 3, 5), (1, 3, 5)] :=
  ⟨.inr ⟨rfl, rfl, rfl⟩, one_b, by decide, by decide, ⟨by decide +kernel, by decide +kernel, by decide +kernel, by decide +kernel, by decide +kernel, by decide +kernel, by decide +kernel⟩, ⟨by decide +kernel, by decide +kernel, by decide +kernel, by decide +kernel, by decide +kernel, by decide +kernel, by decide +kernel⟩, by decide +kernel, by decide +kernel⟩
theorem still_s {lo hi slo shi : Int} (m1 : min 0 lo = slo) (m2 : max 0 hi = shi) (w : World) : Calls Try.prog 142 #[.agg #[.int .i64 100, .int .i64 lo, .int .i64 100, .int .i64 hi]] w fun e w' => e = .returned (.agg #[.int .i64 0, .int .i64 slo, .int .i64 100, .int .i64 shi]) ∧ Below w.heap.size w w' := by
  have h := still_dn 100 lo 100 hi w
  rw [m1, m2, show (min 0 100 : Int) = 0 by decide, show (max 0 100 : Int) = 100 by decide] at h
  exact h
theorem index_two0 (A1 A2 : Option Addr) (n1 n2 c1 c2 : Nat) (w : World) : (Instr.index 213 (.agg #[.slice A1 n1 c1, .slice A2 n2 c2]) (.int .i64 0)).run Try.prog w = .ok (.slice A1 n1 c1) w := by kernel_rfl
theorem index_two1 (A1 A2 : Option Addr) (n1 n2 c1 c2 : Nat) (w : World) : (Instr.index 213 (.agg #[.slice A1 n1 c1, .slice A2 n2 c2]) (.int .i64 1)).run Try.prog w = .ok (.slice A2 n2 c2) w := by kernel_rfl
def pick3 (a b c : List R3) : Nat → List R3
  | 0 => a
  | 1 => b
  | _ => c
theorem Holds.xm {w w' : World} {M : Nat} {l : List (Nat × Nat × Value)} (h : Holds w l) (hx : Xm M w w') (hne : ∀ z, z ∈ l → z.1 ≠ M) : Holds w' l := fun z hz => ⟨Nat.lt_of_lt_of_le (h z hz).1 hx.size, hx.cell (h z hz).1 (hne z hz) (h z hz).2⟩

set_option maxRecDepth 100000 in
set_option maxHeartbeats 32000000 in
theorem step_l {lo hi slo shi x y : Int} {R1 R2 : List R3} (hC : StepC 0 lo hi slo shi x y R1 R2) (L A1 A2 A : Option Addr) (lc b1 b2 ca c1 n2 c2 : Nat) (w : World) (hB : Bay w L lc b1 b2 A ca) (h1 : Runs w (.slice A1 1 c1) [(y, x, x + 1)]) (h2 : Runs w (.slice A2 n2 c2) []) :
    Calls Try.prog 99 #[.agg #[.int .i64 5, .int .i64 5, .int .i64 100, .slice L 5 lc, .slice (some ⟨b1, 0, none⟩) 1 1, .slice (some ⟨b2, 0, none⟩) 1 1, .int .i64 20, .int .i64 20, .int .i64 10, .int .i64 20, .bool false], .agg #[.int .i64 0, .slice A1 1 c1, .slice A2 n2 c2, .slice none 0 0, .bool false], .int .i64 1000] w fun e w' => (∃ P0 P1 P2 k0 k1 k2 e0 e1 e2, e = .returned (.tuple #[.agg #[.int .i64 1000, .slice P0 k0 e0, .slice P1 k1 e1, .slice P2 k2 e2, .bool false], .int .i64 0]) ∧ Runs w' (.slice P0 k0 e0) (refR (Sift (Plus (fun _ _ => false) (cellsL R1)) LandS false) 5 5) ∧ Runs w' (.slice P1 k1 e1) (refR (Sift (fun _ _ => false) LandS false) 5 5) ∧ Runs w' (.slice P2 k2 e2) (refR (Sift (Plus (Plus (fun _ _ => false) (cellsL [])) (cellsL R2)) LandS true) 5 5)) ∧ Below w.heap.size w w' := by
  have HB0 := Lib.hid hB
  have H10 := Lib.hid h1
  have H20 := Lib.hid h2
  have HC := Lib.hid hC
  have BB0 := Lib.hid (Below.refl w.heap.size w)
  clear hB h1 h2 hC
  go_enter Try.func99, Try.ntmps99
  go_upto_region 1 with fail
  obtain ⟨Z, hZ⟩ : ∃ Z, w.heap.size = Z := ⟨_, rfl⟩
  obtain ⟨w1, hw1⟩ : ∃ Z, (((w.alloc (.cells #[.int .i64 5, .int .i64 5, .int .i64 100, .slice L 5 lc, .slice (some ⟨b1, 0, none⟩) 1 1, .slice (some ⟨b2, 0, none⟩) 1 1, .int .i64 20, .int .i64 20, .int .i64 10, .int .i64 20, .bool false] 165)).alloc (.cells #[.int .i64 0, .slice A1 1 c1, .slice A2 n2 c2, .slice none 0 0, .bool false] 89)).alloc (.cells #[.int .i64 0, .slice none 0 0, .slice none 0 0, .slice none 0 0, .bool false] 89)) = Z := ⟨_, rfl⟩
  have k1 : Below w.heap.size w w1 := by rw [← hw1]; exact ((((Below.refl _ _).alloc (Nat.le_refl _) _).alloc (by simp) _).alloc (by simp; omega) _)
  have z1 : Z + 1 + 1 < w1.heap.size := by rw [← hw1, ← hZ]; simp
  have y1 : w.heap.size = Z := hZ
  have sea_1 : HasO w1 (Z) (.cells #[.int .i64 5, .int .i64 5, .int .i64 100, .slice L 5 lc, .slice (some ⟨b1, 0, none⟩) 1 1, .slice (some ⟨b2, 0, none⟩) 1 1, .int .i64 20, .int .i64 20, .int .i64 10, .int .i64 20, .bool false] 165 (0, 0)) := by rw [← hw1, ← hZ]; have h := (HasO.alloc (HasO.alloc (HasO.new (w := w) (o := .cells #[.int .i64 5, .int .i64 5, .int .i64 100, .slice L 5 lc, .slice (some ⟨b1, 0, none⟩) 1 1, .slice (some ⟨b2, 0, none⟩) 1 1, .int .i64 20, .int .i64 20, .int .i64 10, .int .i64 20, .bool false] 165) rfl) (.cells #[.int .i64 0, .slice A1 1 c1, .slice A2 n2 c2, .slice none 0 0, .bool false] 89)) (.cells #[.int .i64 0, .slice none 0 0, .slice none 0 0, .slice none 0 0, .bool false] 89)); simpa only [World.size_alloc] using h
  have pat_1 : HasO w1 (Z + 1) (.cells #[.int .i64 0, .slice A1 1 c1, .slice A2 n2 c2, .slice none 0 0, .bool false] 89 (0, 0)) := by rw [← hw1, ← hZ]; have h := (HasO.alloc (HasO.new (w := (w.alloc (.cells #[.int .i64 5, .int .i64 5, .int .i64 100, .slice L 5 lc, .slice (some ⟨b1, 0, none⟩) 1 1, .slice (some ⟨b2, 0, none⟩) 1 1, .int .i64 20, .int .i64 20, .int .i64 10, .int .i64 20, .bool false] 165))) (o := .cells #[.int .i64 0, .slice A1 1 c1, .slice A2 n2 c2, .slice none 0 0, .bool false] 89) rfl) (.cells #[.int .i64 0, .slice none 0 0, .slice none 0 0, .slice none 0 0, .bool false] 89)); simpa only [World.size_alloc] using h
  have res_1 : HasO w1 (Z + 1 + 1) (.cells #[.int .i64 0, .slice none 0 0, .slice none 0 0, .slice none 0 0, .bool false] 89 (0, 0)) := by rw [← hw1, ← hZ]; have h := (HasO.new (w := ((w.alloc (.cells #[.int .i64 5, .int .i64 5, .int .i64 100, .slice L 5 lc, .slice (some ⟨b1, 0, none⟩) 1 1, .slice (some ⟨b2, 0, none⟩) 1 1, .int .i64 20, .int .i64 20, .int .i64 10, .int .i64 20, .bool false] 165)).alloc (.cells #[.int .i64 0, .slice A1 1 c1, .slice A2 n2 c2, .slice none 0 0, .bool false] 89))) (o := .cells #[.int .i64 0, .slice none 0 0, .slice none 0 0, .slice none 0 0, .bool false] 89) rfl); simpa only [World.size_alloc] using h
  (try rw [hw1]); (try rw [hZ])
  clear hw1 hZ
  have S1 := k1.size
  have BB1 := Lib.hid (BB0.out.trans (k1.mono BB0.out.size))
  clear k1 BB0
  have seaH_1 := Lib.hid sea_1
  clear sea_1
  have patH_1 := Lib.hid pat_1
  clear pat_1
  have resH_1 := Lib.hid res_1
  clear res_1
  have q1pat0 := HasO.cell (i := 0) patH_1.out rfl
  have q1pat4 := HasO.cell (i := 4) patH_1.out rfl
  go_upto_region 3 with fail
  have hmk := makeSet
  have zp : Z + 1 < w1.heap.size := by omega
  have pc4 : w1.cell? ⟨Z + 1, 4, none⟩ = some (.bool false) := q1pat4
  have Q1 := Lib.hid (show Holds w1 [(Z + 1, 4, .bool false)] from .cons zp pc4 (.nil _))
  have LT1 := Lib.hid Q1.out.lt
  clear q1pat0 q1pat4
  go_cut [8, 9, 10, 29, 30] from 31 to 32 (fun a b o m0 m1 wx => ∃ Ml Mb X Y, m0 = .map (some Ml) ∧ m1 = .map (some Mb) ∧ a = .pointer (some ⟨X, 0, none⟩) ∧ b = .pointer (some ⟨Y, 0, none⟩) ∧ o = .bool false ∧ HasO wx X (.cells #[.map (some Ml)] 210 (0, 0)) ∧ HasO wx Y (.cells #[.map (some Mb)] 210 (0, 0)) ∧ HasO wx Ml (.map #[] 0) ∧ HasO wx Mb (.map #[] 0) ∧ Ml ≠ Mb ∧ X ≠ Y ∧ Ml ≠ X ∧ Ml ≠ Y ∧ Mb ≠ X ∧ Mb ≠ Y ∧ w1.heap.size ≤ X ∧ w1.heap.size ≤ Y ∧ w1.heap.size ≤ Ml ∧ w1.heap.size ≤ Mb ∧ Below w1.heap.size w1 wx)
  case first =>
    go_region_held3 (fun W' => W'.cell? ⟨Z + 1, 4, none⟩ = some (.bool false))
      (first | with_reducible exact holds1 Q1.out | with_reducible exact holds1 (.drew Q1.out) | with_reducible exact holds1 (Q1.out.alloc _) | with_reducible exact holds1 (.drew (Q1.out.alloc _)) | with_reducible exact holds1 ((Q1.out.alloc _).alloc _) | with_reducible exact holds1 (.drew ((Q1.out.alloc _).alloc _)) | with_reducible exact holds1 (((Q1.out.alloc _).alloc _).alloc _) | with_reducible exact holds1 (.drew (((Q1.out.alloc _).alloc _).alloc _)) | with_reducible exact holds1 ((((Q1.out.alloc _).alloc _).alloc _).alloc _) | with_reducible exact holds1 (.drew ((((Q1.out.alloc _).alloc _).alloc _).alloc _)) | with_reducible exact holds1 (Q1.out.setNew LT1.out _ _ _ (by omega)) | with_reducible exact holds1 (.drew (Q1.out.setNew LT1.out _ _ _ (by omega))) | with_reducible exact holds1 ((Q1.out.alloc _).setNew LT1.out _ _ _ (by omega)) | with_reducible exact holds1 (.drew ((Q1.out.alloc _).setNew LT1.out _ _ _ (by omega))) | with_reducible exact holds1 (((Q1.out.alloc _).alloc _).setNew LT1.out _ _ _ (by omega)) | with_reducible exact holds1 (.drew (((Q1.out.alloc _).alloc _).setNew LT1.out _ _ _ (by omega))) | with_reducible exact holds1 ((((Q1.out.alloc _).alloc _).alloc _).setNew LT1.out _ _ _ (by omega)) | with_reducible exact holds1 (.drew ((((Q1.out.alloc _).alloc _).alloc _).setNew LT1.out _ _ _ (by omega))) | with_reducible exact holds1 (((((Q1.out.alloc _).alloc _).alloc _).alloc _).setNew LT1.out _ _ _ (by omega)) | with_reducible exact holds1 (.drew (((((Q1.out.alloc _).alloc _).alloc _).alloc _).setNew LT1.out _ _ _ (by omega))) | with_reducible exact holds1 ((Q1.out.setNew LT1.out _ _ _ (by omega)).setNew LT1.out _ _ _ (by omega)) | with_reducible exact holds1 (.drew ((Q1.out.setNew LT1.out _ _ _ (by omega)).setNew LT1.out _ _ _ (by omega))) | with_reducible exact holds1 (((Q1.out.alloc _).setNew LT1.out _ _ _ (by omega)).setNew LT1.out _ _ _ (by omega)) | with_reducible exact holds1 (.drew (((Q1.out.alloc _).setNew LT1.out _ _ _ (by omega)).setNew LT1.out _ _ _ (by omega))) | with_reducible exact holds1 ((((Q1.out.alloc _).alloc _).setNew LT1.out _ _ _ (by omega)).setNew LT1.out _ _ _ (by omega)) | with_reducible exact holds1 (.drew ((((Q1.out.alloc _).alloc _).setNew LT1.out _ _ _ (by omega)).setNew LT1.out _ _ _ (by omega))) | with_reducible exact holds1 (((((Q1.out.alloc _).alloc _).alloc _).setNew LT1.out _ _ _ (by omega)).setNew LT1.out _ _ _ (by omega)) | with_reducible exact holds1 (.drew (((((Q1.out.alloc _).alloc _).alloc _).setNew LT1.out _ _ _ (by omega)).setNew LT1.out _ _ _ (by omega))) | with_reducible exact holds1 ((((((Q1.out.alloc _).alloc _).alloc _).alloc _).setNew LT1.out _ _ _ (by omega)).setNew LT1.out _ _ _ (by omega)) | with_reducible exact holds1 (.drew ((((((Q1.out.alloc _).alloc _).alloc _).alloc _).setNew LT1.out _ _ _ (by omega)).setNew LT1.out _ _ _ (by omega))) | fail)
      (first | fail)
    all_goals
      rename_i hHeld
      clear hHeld
      go_wp2_with fail
      go_meet
      refine ⟨_, _, _, _, rfl, rfl, rfl, rfl, rfl, ?_, ?_, ?_, ?_, ?_, ?_, ?_, ?_, ?_, ?_, ?_, ?_, ?_, ?_, ?_⟩
      all_goals (first | omega | ((repeat (with_reducible (first | (refine HasO.newR ?_; (first | with_reducible exact Nat.le_refl _ | with_reducible rfl | (simp only [World.size_alloc]; done) | (simp only [World.size_alloc]; omega) | omega)) | refine HasO.drewR ?_ | refine HasO.allocR ?_ | (refine HasO.setNe ?_ ?_; (first | with_reducible exact Nat.le_refl _ | with_reducible rfl | (simp only [World.size_alloc, sizeD, sizeS]; done) | (simp only [World.size_alloc, sizeD, sizeS]; omega) | omega)) | refine HasO.setMap ?_))); done) | ((repeat (with_reducible (first | exact Below.refl _ _ | refine Below.drewR ?_ | (refine Below.alloc ?_ ?_ _; rotate_left; (first | with_reducible exact Nat.le_refl _ | with_reducible rfl | (simp only [World.size_alloc]; done) | (simp only [World.size_alloc]; omega) | omega)) | (refine Below.setCell ?_ ?_ _; rotate_left; dsimp only; omega)))); done))
  case rest =>
    obtain ⟨w2, hwc⟩ : ∃ z, z = wc := ⟨_, rfl⟩
    subst hwc
    obtain ⟨Ml, Mb, X, Y, rfl, rfl, rfl, rfl, rfl, hX, hY, hMl, hMb, ne1, ne2, ne3, ne4, ne5, ne6, le1, le2, le3, le4, k2⟩ := hcut
    clear Q1 LT1 pc4 hmk
    have zMl := hMl.lt
    have zMb := hMb.lt
    have zX := hX.lt
    have zY := hY.lt
    have S2 := k2.size
    have sea_2 := Lib.hid (seaH_1.out.below k2)
    have pat_2 := Lib.hid (patH_1.out.below k2)
    have res_2 := Lib.hid (resH_1.out.below k2)
    have BB2 := Lib.hid (BB1.out.trans (k2.mono BB1.out.size))
    clear k2 seaH_1 patH_1 resH_1 BB1
    have X_h2 := Lib.hid (hX)
    have Y_h2 := Lib.hid (hY)
    have sl_h2 := Lib.hid (BaySet.new hMl)
    have sb_h2 := Lib.hid (BaySet.new hMb)
    clear hX hY hMl hMb
    have q2X0 := HasO.cell (i := 0) X_h2.out rfl
    have q2sea0 := HasO.cell (i := 0) sea_2.out rfl
    have q2sea1 := HasO.cell (i := 1) sea_2.out rfl
    have q2sea2 := HasO.cell (i := 2) sea_2.out rfl
    have q2sea3 := HasO.cell (i := 3) sea_2.out rfl
    go_wp2_with fail
    refine (add_dn L L lc 5 lc Ml 0 (fun _ _ => false) landB w2 (HB0.out.below BB2.out).1 (HB0.out.below BB2.out).1 sl_h2.out.set land_ok (by decide +kernel) (inBay_i64 land_in)).mono ?_
    rintro e v1 ⟨rfl, hS, hx⟩
    have HX := Lib.hid hx
    have SL := Lib.hid (BaySet.plus sl_h2.out hS land_in (by decide +kernel))
    clear hx hS
    clear q2X0 q2sea0 q2sea1 q2sea2 q2sea3
    clear sl_h2
    have S3 := Xm.size HX.out
    have sea_3 := Lib.hid (sea_2.out.xm HX.out (by omega))
    have pat_3 := Lib.hid (pat_2.out.xm HX.out (by omega))
    have res_3 := Lib.hid (res_2.out.xm HX.out (by omega))
    have X_3 := Lib.hid (X_h2.out.xm HX.out (by omega))
    have Y_3 := Lib.hid (Y_h2.out.xm HX.out (by omega))
    have sb_3 := Lib.hid (sb_h2.out.xm HX.out (by omega))
    have BB3 := Lib.hid (BB2.out.trans (Xm.below HX.out (B := w.heap.size) (by omega) (by omega)))
    clear sea_2 pat_2 res_2 X_h2 Y_h2 sb_h2 BB2
    clear HX
    have q3Y0 := HasO.cell (i := 0) Y_3.out rfl
    have q3sea0 := HasO.cell (i := 0) sea_3.out rfl
    have q3sea1 := HasO.cell (i := 1) sea_3.out rfl
    have q3sea2 := HasO.cell (i := 2) sea_3.out rfl
    have q3sea3 := HasO.cell (i := 3) sea_3.out rfl
    have q3pat3 := HasO.cell (i := 3) pat_3.out rfl
    go_wp2_with fail
    refine (add_dn L none lc 0 0 Mb 0 (fun _ _ => false) [] v1 (HB0.out.below BB3.out).1 (Lst.nil _) sb_3.out.set (by decide +kernel) (by decide +kernel) (fun z hz => by cases hz)).mono ?_
    rintro e v2 ⟨rfl, hS, hx⟩
    have HX := Lib.hid hx
    have SBt := Lib.hid (BaySet.plus sb_3.out hS (by decide +kernel) (by decide +kernel))
    clear hx hS
    clear q3Y0 q3sea0 q3sea1 q3sea2 q3sea3 q3pat3
    clear sb_3
    have S4 := Xm.size HX.out
    have sea_4 := Lib.hid (sea_3.out.xm HX.out (by omega))
    have pat_4 := Lib.hid (pat_3.out.xm HX.out (by omega))
    have res_4 := Lib.hid (res_3.out.xm HX.out (by omega))
    have X_4 := Lib.hid (X_3.out.xm HX.out (by omega))
    have Y_4 := Lib.hid (Y_3.out.xm HX.out (by omega))
    have sl_4 := Lib.hid (SL.out.xm HX.out (by omega))
    have BB4 := Lib.hid (BB3.out.trans (Xm.below HX.out (B := w.heap.size) (by omega) (by omega)))
    clear sea_3 pat_3 res_3 X_3 Y_3 SL BB3
    clear HX
    have hmk := makeSet
    go_upto_region 7 with fail
    clear hmk
    obtain ⟨Ma, hMa⟩ : ∃ Z, v2.heap.size = Z := ⟨_, rfl⟩
    obtain ⟨w5, hw5⟩ : ∃ Z, (((v2.alloc (.map #[] 0)).alloc (.map #[] 0)).alloc (.cells #[.map (some v2.heap.size), .map (some (v2.heap.size + 1))] 212)) = Z := ⟨_, rfl⟩
    have k5 : Below v2.heap.size v2 w5 := by rw [← hw5]; exact ((((Below.refl _ _).alloc (Nat.le_refl _) _).alloc (by simp) _).alloc (by simp; omega) _)
    have z5 : Ma + 1 + 1 < w5.heap.size := by rw [← hw5, ← hMa]; simp
    have y5 : v2.heap.size = Ma := hMa
    have ma_5 : HasO w5 (Ma) (.map #[] 0) := by rw [← hw5, ← hMa]; have h := (HasO.alloc (HasO.alloc (HasO.new (w := v2) (o := .map #[] 0) rfl) (.map #[] 0)) (.cells #[.map (some v2.heap.size), .map (some (v2.heap.size + 1))] 212)); simpa only [World.size_alloc] using h
    have mc_5 : HasO w5 (Ma + 1) (.map #[] 0) := by rw [← hw5, ← hMa]; have h := (HasO.alloc (HasO.new (w := (v2.alloc (.map #[] 0))) (o := .map #[] 0) rfl) (.cells #[.map (some v2.heap.size), .map (some (v2.heap.size + 1))] 212)); simpa only [World.size_alloc] using h
    have fb_5 : HasO w5 (Ma + 1 + 1) (.cells #[.map (some Ma), .map (some (Ma + 1))] 212 (0, 0)) := by rw [← hw5, ← hMa]; have h := (HasO.new (w := ((v2.alloc (.map #[] 0)).alloc (.map #[] 0))) (o := .cells #[.map (some v2.heap.size), .map (some (v2.heap.size + 1))] 212) rfl); simpa only [World.size_alloc] using h
    (try rw [hw5]); (try rw [hMa])
    clear hw5 hMa
    have S5 := k5.size
    have sea_5 := Lib.hid (sea_4.out.below k5)
    have pat_5 := Lib.hid (pat_4.out.below k5)
    have res_5 := Lib.hid (res_4.out.below k5)
    have X_5 := Lib.hid (X_4.out.below k5)
    have Y_5 := Lib.hid (Y_4.out.below k5)
    have sl_5 := Lib.hid (sl_4.out.below k5)
    have sb_5 := Lib.hid (SBt.out.below k5)
    have BB5 := Lib.hid (BB4.out.trans (k5.mono BB4.out.size))
    clear k5 sea_4 pat_4 res_4 X_4 Y_4 sl_4 SBt BB4
    have maH_5 := Lib.hid ma_5
    clear ma_5
    have mcH_5 := Lib.hid mc_5
    clear mc_5
    have fbH_5 := Lib.hid fb_5
    clear fb_5
    have sa_h5 := Lib.hid (BaySet.new maH_5.out)
    have sc_h5 := Lib.hid (BaySet.new mcH_5.out)
    clear maH_5
    clear mcH_5
    have q5pat1 := HasO.cell (i := 1) pat_5.out rfl
    have q5pat2 := HasO.cell (i := 2) pat_5.out rfl
    have hi0 := index_two0 A1 A2 1 n2 c1 c2
    have hi1 := index_two1 A1 A2 1 n2 c1 c2
    go_wp2_with fail
    refine wp_loop_rounds 3 ?_
    rw [rounds_succ]
    clear q5pat1 q5pat2
    have q5sea0 := HasO.cell (i := 0) sea_5.out rfl
    have q5sea1 := HasO.cell (i := 1) sea_5.out rfl
    have q5sea2 := HasO.cell (i := 2) sea_5.out rfl
    have q5sea3 := HasO.cell (i := 3) sea_5.out rfl
    have q5sea4 := HasO.cell (i := 4) sea_5.out rfl
    have q5sea5 := HasO.cell (i := 5) sea_5.out rfl
    have q5sea6 := HasO.cell (i := 6) sea_5.out rfl
    have q5sea7 := HasO.cell (i := 7) sea_5.out rfl
    have q5sea8 := HasO.cell (i := 8) sea_5.out rfl
    have q5sea9 := HasO.cell (i := 9) sea_5.out rfl
    have q5sea10 := HasO.cell (i := 10) sea_5.out rfl
    have q5pat0 := HasO.cell (i := 0) pat_5.out rfl
    go_wp2_with fail
    refine (groups_one 0 lo hi HC.out.side L A A1 lc b1 b2 ca c1 x y 0 HC.out.one _ (HB0.out.below BB5.out) (H10.out.below BB5.out) (by decide)).mono ?_
    rintro e w6 ⟨⟨G, gc, R, rc, rfl, hG, hR⟩, hb6⟩
    have k6 : Below w5.heap.size w5 w6 := hb6
    clear hb6
    have S6 := k6.size
    have sea_6 := Lib.hid (sea_5.out.below k6)
    have pat_6 := Lib.hid (pat_5.out.below k6)
    have res_6 := Lib.hid (res_5.out.below k6)
    have X_6 := Lib.hid (X_5.out.below k6)
    have Y_6 := Lib.hid (Y_5.out.below k6)
    have sl_6 := Lib.hid (sl_5.out.below k6)
    have sb_6 := Lib.hid (sb_5.out.below k6)
    have fb_6 := Lib.hid (fbH_5.out.below k6)
    have sa_6 := Lib.hid (sa_h5.out.below k6)
    have sc_6 := Lib.hid (sc_h5.out.below k6)
    have BB6 := Lib.hid (BB5.out.trans (k6.mono BB5.out.size))
    clear k6 sea_5 pat_5 res_5 X_5 Y_5 sl_5 sb_5 fbH_5 sa_h5 sc_h5 BB5
    clear q5sea0 q5sea1 q5sea2 q5sea3 q5sea4 q5sea5 q5sea6 q5sea7 q5sea8 q5sea9 q5sea10 q5pat0
    have HRR := Lib.hid hR
    have hg0 := hG.2.1
    have hg1 := hG.2.2.1
    have hg2 := hG.2.2.2.1
    have hg3 := hG.2.2.2.2.1
    have hg4 := hG.2.2.2.2.2
    clear hR hG
    go_wp2_with fail
    refine wp_loop_rounds 2 ?_
    rw [rounds_succ]
    go_upto_region 16 with fail
    obtain ⟨GB, hGB⟩ : ∃ Z, w6.heap.size = Z := ⟨_, rfl⟩
    obtain ⟨w7, hw7⟩ : ∃ Z, (w6.alloc (.cells #[.int .i64 100, .int .i64 lo, .int .i64 100, .int .i64 hi, .slice R 1 rc] 218)) = Z := ⟨_, rfl⟩
    have k7 : Below w6.heap.size w6 w7 := by rw [← hw7]; exact ((Below.refl _ _).alloc (Nat.le_refl _) _)
    have z7 : GB < w7.heap.size := by rw [← hw7, ← hGB]; simp
    have y7 : w6.heap.size = GB := hGB
    have gb_7 : HasO w7 (GB) (.cells #[.int .i64 100, .int .i64 lo, .int .i64 100, .int .i64 hi, .slice R 1 rc] 218 (0, 0)) := by rw [← hw7, ← hGB]; have h := (HasO.new (w := w6) (o := .cells #[.int .i64 100, .int .i64 lo, .int .i64 100, .int .i64 hi, .slice R 1 rc] 218) rfl); simpa only [World.size_alloc] using h
    (try rw [hw7]); (try rw [hGB])
    clear hw7 hGB
    have KK := Lib.hid k7
    have S7 := k7.size
    have sea_7 := Lib.hid (sea_6.out.below k7)
    have pat_7 := Lib.hid (pat_6.out.below k7)
    have res_7 := Lib.hid (res_6.out.below k7)
    have X_7 := Lib.hid (X_6.out.below k7)
    have Y_7 := Lib.hid (Y_6.out.below k7)
    have sl_7 := Lib.hid (sl_6.out.below k7)
    have sb_7 := Lib.hid (sb_6.out.below k7)
    have fb_7 := Lib.hid (fb_6.out.below k7)
    have sa_7 := Lib.hid (sa_6.out.below k7)
    have sc_7 := Lib.hid (sc_6.out.below k7)
    have BB7 := Lib.hid (BB6.out.trans (k7.mono BB6.out.size))
    clear k7 sea_6 pat_6 res_6 X_6 Y_6 sl_6 sb_6 fb_6 sa_6 sc_6 BB6
    have gbH_7 := Lib.hid gb_7
    clear gb_7
    clear hg0 hg1 hg2 hg3 hg4
    have HR1 := Lib.hid (HRR.out.below (show Below w6.heap.size w6 w7 from ⟨KK.out.os, KK.out.tape, KK.out.output, KK.out.size, KK.out.block⟩))
    clear HRR KK
    go_cut [18] from 78 to 85 (fun v wx => v = .bool false ∧ SetT wx (Ma) (0 + (cellsL R1).length) (Plus (fun _ _ => false) (cellsL R1)) ∧ Xm (Ma) w7 wx)
    case first =>
      have HG := Lib.hid (fun W (hW : Below w7.heap.size w7 W) => grow_dn L R lc b1 b2 1 rc (Ma) (0) (fun _ _ => false) 100 lo 100 hi 100 lo 100 hi (y, x, x + 1) R1 false W (HB0.out.1.below (BB7.out.trans (hW.mono BB7.out.size))) (HR1.out.below hW) (sa_7.out.set.size hW) HC.out.g1 (by have := HC.out.n1; have := HC.out.n2; (try simp only [cells_nil, List.length_nil]); omega))
      have lG := HasO.lt gbH_7.out
      have nlG : GB ≠ Ma := by omega
      have lF := HasO.lt fb_7.out
      have nlF : Ma + 1 + 1 ≠ Ma := by omega
      have lZ := HasO.lt sea_7.out
      have nlZ : Z ≠ Ma := by omega
      have Q1 := Lib.hid (show Holds w7 [(Z, 0, .int .i64 5), (Z, 1, .int .i64 5), (Z, 2, .int .i64 100), (Z, 3, .slice L 5 lc), (Z, 4, .slice (some ⟨b1, 0, none⟩) 1 1), (Z, 5, .slice (some ⟨b2, 0, none⟩) 1 1), (Z, 6, .int .i64 20), (Z, 7, .int .i64 20), (Z, 8, .int .i64 10), (Z, 9, .int .i64 20), (Z, 10, .bool false), (Ma + 1 + 1, 0, .map (some (Ma))), (GB, 0, .int .i64 100), (GB, 1, .int .i64 lo), (GB, 2, .int .i64 100), (GB, 3, .int .i64 hi), (GB, 4, .slice R 1 rc)] from (.cons lZ (HasO.cell (i := 0) sea_7.out rfl) (.cons lZ (HasO.cell (i := 1) sea_7.out rfl) (.cons lZ (HasO.cell (i := 2) sea_7.out rfl) (.cons lZ (HasO.cell (i := 3) sea_7.out rfl) (.cons lZ (HasO.cell (i := 4) sea_7.out rfl) (.cons lZ (HasO.cell (i := 5) sea_7.out rfl) (.cons lZ (HasO.cell (i := 6) sea_7.out rfl) (.cons lZ (HasO.cell (i := 7) sea_7.out rfl) (.cons lZ (HasO.cell (i := 8) sea_7.out rfl) (.cons lZ (HasO.cell (i := 9) sea_7.out rfl) (.cons lZ (HasO.cell (i := 10) sea_7.out rfl) (.cons lF (HasO.cell (i := 0) fb_7.out rfl) (.cons lG (HasO.cell (i := 0) gbH_7.out rfl) (.cons lG (HasO.cell (i := 1) gbH_7.out rfl) (.cons lG (HasO.cell (i := 2) gbH_7.out rfl) (.cons lG (HasO.cell (i := 3) gbH_7.out rfl) (.cons lG (HasO.cell (i := 4) gbH_7.out rfl) (.nil _)))))))))))))))))))
      have NE := Lib.hid (show ∀ z, z ∈ ([(Z, 0, .int .i64 5), (Z, 1, .int .i64 5), (Z, 2, .int .i64 100), (Z, 3, .slice L 5 lc), (Z, 4, .slice (some ⟨b1, 0, none⟩) 1 1), (Z, 5, .slice (some ⟨b2, 0, none⟩) 1 1), (Z, 6, .int .i64 20), (Z, 7, .int .i64 20), (Z, 8, .int .i64 10), (Z, 9, .int .i64 20), (Z, 10, .bool false), (Ma + 1 + 1, 0, .map (some (Ma))), (GB, 0, .int .i64 100), (GB, 1, .int .i64 lo), (GB, 2, .int .i64 100), (GB, 3, .int .i64 hi), (GB, 4, .slice R 1 rc)] : List (Nat × Nat × Value)) → z.1 ≠ Ma from (neCons nlZ (neCons nlZ (neCons nlZ (neCons nlZ (neCons nlZ (neCons nlZ (neCons nlZ (neCons nlZ (neCons nlZ (neCons nlZ (neCons nlZ (neCons nlF (neCons nlG (neCons nlG (neCons nlG (neCons nlG (neCons nlG (neNil _)))))))))))))))))))
      clear lG nlG lF nlF lZ nlZ
      go_region_held3 (fun W' => W'.cell? ⟨Z, 0, none⟩ = some (.int .i64 5) ∧ W'.cell? ⟨Z, 1, none⟩ = some (.int .i64 5) ∧ W'.cell? ⟨Z, 2, none⟩ = some (.int .i64 100) ∧ W'.cell? ⟨Z, 3, none⟩ = some (.slice L 5 lc) ∧ W'.cell? ⟨Z, 4, none⟩ = some (.slice (some ⟨b1, 0, none⟩) 1 1) ∧ W'.cell? ⟨Z, 5, none⟩ = some (.slice (some ⟨b2, 0, none⟩) 1 1) ∧ W'.cell? ⟨Z, 6, none⟩ = some (.int .i64 20) ∧ W'.cell? ⟨Z, 7, none⟩ = some (.int .i64 20) ∧ W'.cell? ⟨Z, 8, none⟩ = some (.int .i64 10) ∧ W'.cell? ⟨Z, 9, none⟩ = some (.int .i64 20) ∧ W'.cell? ⟨Z, 10, none⟩ = some (.bool false) ∧ W'.cell? ⟨Ma + 1 + 1, 0, none⟩ = some (.map (some (Ma))) ∧ W'.cell? ⟨GB, 0, none⟩ = some (.int .i64 100) ∧ W'.cell? ⟨GB, 1, none⟩ = some (.int .i64 lo) ∧ W'.cell? ⟨GB, 2, none⟩ = some (.int .i64 100) ∧ W'.cell? ⟨GB, 3, none⟩ = some (.int .i64 hi) ∧ W'.cell? ⟨GB, 4, none⟩ = some (.slice R 1 rc))
        (first | with_reducible exact holds17 Q1.out | with_reducible exact holds17 (.drew Q1.out) | with_reducible exact holds17 Q2.out | fail)
        (first | (go_at_call 141; refine (HG.out _ (by first | exact Below.refl _ _ | exact drewB _)).mono ?_; rintro e v ⟨rfl, hS, hx⟩; have hx2 : Xm (Ma) w7 v := (by first | exact hx | exact xm_of_drew hx); have Q2 := Lib.hid (Q1.out.xm hx2 NE.out); have HS := Lib.hid hS; have HX := Lib.hid hx2; clear hS hx hx2; skip))
      rename_i hHeld
      clear hHeld
      go_wp2_with fail
      go_meet
      exact ⟨rfl, HS.out, HX.out⟩
    case rest =>
      obtain ⟨u1, hwc⟩ : ∃ z, z = wc := ⟨_, rfl⟩
      subst hwc
      obtain ⟨rfl, hS, hx⟩ := hcut
      have HX := Lib.hid hx
      have HR2 := Lib.hid (Xm.runs sa_7.out.set HR1.out hx)
      have PS := Lib.hid (BaySet.plus sa_7.out hS HC.out.g1.bay (by have := HC.out.n1; have := HC.out.n2; (try simp only [cells_nil, List.length_nil]); omega))
      clear hx hS
      clear sa_7
      have S8 := Xm.size HX.out
      have sea_8 := Lib.hid (sea_7.out.xm HX.out (by omega))
      have pat_8 := Lib.hid (pat_7.out.xm HX.out (by omega))
      have res_8 := Lib.hid (res_7.out.xm HX.out (by omega))
      have X_8 := Lib.hid (X_7.out.xm HX.out (by omega))
      have Y_8 := Lib.hid (Y_7.out.xm HX.out (by omega))
      have sl_8 := Lib.hid (sl_7.out.xm HX.out (by omega))
      have sb_8 := Lib.hid (sb_7.out.xm HX.out (by omega))
      have fb_8 := Lib.hid (fb_7.out.xm HX.out (by omega))
      have sc_8 := Lib.hid (sc_7.out.xm HX.out (by omega))
      have gb_8 := Lib.hid (gbH_7.out.xm HX.out (by omega))
      have BB8 := Lib.hid (BB7.out.trans (Xm.below HX.out (B := w.heap.size) (by omega) (by omega)))
      clear sea_7 pat_7 res_7 X_7 Y_7 sl_7 sb_7 fb_7 sc_7 gbH_7 BB7
      have PS1 := PS
      clear PS HX
      go_upto_region 17 with fail
      go_cut [19] from 86 to 92 (fun v wx => v = .bool false ∧ SetT wx (Mb) ((0 + (cellsL []).length) + (cellsL R2).length) (Plus (Plus (fun _ _ => false) (cellsL [])) (cellsL R2)) ∧ Xm (Mb) u1 wx)
      case first =>
        have HG := Lib.hid (fun W (hW : Below u1.heap.size u1 W) => grow_dn L R lc b1 b2 1 rc (Mb) ((0 + (cellsL []).length)) (Plus (fun _ _ => false) (cellsL [])) 100 lo 100 hi 0 slo 100 shi (y, x, x + 1) R2 false W (HB0.out.1.below (BB8.out.trans (hW.mono BB8.out.size))) (HR2.out.below hW) (sb_8.out.set.size hW) HC.out.g2 (by have := HC.out.n1; have := HC.out.n2; (try simp only [cells_nil, List.length_nil]); omega))
        have lG := HasO.lt gb_8.out
        have nlG : GB ≠ Mb := by omega
        have lY := HasO.lt Y_8.out
        have nlY : Y ≠ Mb := by omega
        have lZ := HasO.lt sea_8.out
        have nlZ : Z ≠ Mb := by omega
        have Q1 := Lib.hid (show Holds u1 [(Z, 0, .int .i64 5), (Z, 1, .int .i64 5), (Z, 2, .int .i64 100), (Z, 3, .slice L 5 lc), (Z, 4, .slice (some ⟨b1, 0, none⟩) 1 1), (Z, 5, .slice (some ⟨b2, 0, none⟩) 1 1), (Z, 6, .int .i64 20), (Z, 7, .int .i64 20), (Z, 8, .int .i64 10), (Z, 9, .int .i64 20), (Z, 10, .bool false), (Y, 0, .map (some Mb)), (GB, 0, .int .i64 100), (GB, 1, .int .i64 lo), (GB, 2, .int .i64 100), (GB, 3, .int .i64 hi), (GB, 4, .slice R 1 rc)] from (.cons lZ (HasO.cell (i := 0) sea_8.out rfl) (.cons lZ (HasO.cell (i := 1) sea_8.out rfl) (.cons lZ (HasO.cell (i := 2) sea_8.out rfl) (.cons lZ (HasO.cell (i := 3) sea_8.out rfl) (.cons lZ (HasO.cell (i := 4) sea_8.out rfl) (.cons lZ (HasO.cell (i := 5) sea_8.out rfl) (.cons lZ (HasO.cell (i := 6) sea_8.out rfl) (.cons lZ (HasO.cell (i := 7) sea_8.out rfl) (.cons lZ (HasO.cell (i := 8) sea_8.out rfl) (.cons lZ (HasO.cell (i := 9) sea_8.out rfl) (.cons lZ (HasO.cell (i := 10) sea_8.out rfl) (.cons lY (HasO.cell (i := 0) Y_8.out rfl) (.cons lG (HasO.cell (i := 0) gb_8.out rfl) (.cons lG (HasO.cell (i := 1) gb_8.out rfl) (.cons lG (HasO.cell (i := 2) gb_8.out rfl) (.cons lG (HasO.cell (i := 3) gb_8.out rfl) (.cons lG (HasO.cell (i := 4) gb_8.out rfl) (.nil _)))))))))))))))))))
        have NE := Lib.hid (show ∀ z, z ∈ ([(Z, 0, .int .i64 5), (Z, 1, .int .i64 5), (Z, 2, .int .i64 100), (Z, 3, .slice L 5 lc), (Z, 4, .slice (some ⟨b1, 0, none⟩) 1 1), (Z, 5, .slice (some ⟨b2, 0, none⟩) 1 1), (Z, 6, .int .i64 20), (Z, 7, .int .i64 20), (Z, 8, .int .i64 10), (Z, 9, .int .i64 20), (Z, 10, .bool false), (Y, 0, .map (some Mb)), (GB, 0, .int .i64 100), (GB, 1, .int .i64 lo), (GB, 2, .int .i64 100), (GB, 3, .int .i64 hi), (GB, 4, .slice R 1 rc)] : List (Nat × Nat × Value)) → z.1 ≠ Mb from (neCons nlZ (neCons nlZ (neCons nlZ (neCons nlZ (neCons nlZ (neCons nlZ (neCons nlZ (neCons nlZ (neCons nlZ (neCons nlZ (neCons nlZ (neCons nlY (neCons nlG (neCons nlG (neCons nlG (neCons nlG (neCons nlG (neNil _)))))))))))))))))))
        clear lG nlG lY nlY lZ nlZ
        go_region_held3 (fun W' => W'.cell? ⟨Z, 0, none⟩ = some (.int .i64 5) ∧ W'.cell? ⟨Z, 1, none⟩ = some (.int .i64 5) ∧ W'.cell? ⟨Z, 2, none⟩ = some (.int .i64 100) ∧ W'.cell? ⟨Z, 3, none⟩ = some (.slice L 5 lc) ∧ W'.cell? ⟨Z, 4, none⟩ = some (.slice (some ⟨b1, 0, none⟩) 1 1) ∧ W'.cell? ⟨Z, 5, none⟩ = some (.slice (some ⟨b2, 0, none⟩) 1 1) ∧ W'.cell? ⟨Z, 6, none⟩ = some (.int .i64 20) ∧ W'.cell? ⟨Z, 7, none⟩ = some (.int .i64 20) ∧ W'.cell? ⟨Z, 8, none⟩ = some (.int .i64 10) ∧ W'.cell? ⟨Z, 9, none⟩ = some (.int .i64 20) ∧ W'.cell? ⟨Z, 10, none⟩ = some (.bool false) ∧ W'.cell? ⟨Y, 0, none⟩ = some (.map (some Mb)) ∧ W'.cell? ⟨GB, 0, none⟩ = some (.int .i64 100) ∧ W'.cell? ⟨GB, 1, none⟩ = some (.int .i64 lo) ∧ W'.cell? ⟨GB, 2, none⟩ = some (.int .i64 100) ∧ W'.cell? ⟨GB, 3, none⟩ = some (.int .i64 hi) ∧ W'.cell? ⟨GB, 4, none⟩ = some (.slice R 1 rc))
          (first | with_reducible exact holds17 Q1.out | with_reducible exact holds17 (.drew Q1.out) | with_reducible exact holds17 Q2.out | with_reducible exact holds17 Q3.out | fail)
          (first | (go_at_call 142; refine (still_s HC.out.m1 HC.out.m2 _).mono ?_; rintro e v0 ⟨rfl, hb⟩; have kb : Below u1.heap.size u1 v0 := (by first | exact below_plain hb | exact below_of_drew hb); have Q2 := Lib.hid (Q1.out.below kb); have HKb := Lib.hid kb; clear hb kb; skip) | (go_at_call 141; refine (HG.out _ HKb.out).mono ?_; rintro e v ⟨rfl, hS, hx⟩; have Q3 := Lib.hid (Q2.out.xm hx NE.out); have HS := Lib.hid hS; have HX := Lib.hid ((Xm.of (M := Mb) HKb.out).trans hx); clear hS hx; skip))
        rename_i hHeld
        clear hHeld
        go_wp2_with fail
        go_meet
        exact ⟨rfl, HS.out, HX.out⟩
      case rest =>
        obtain ⟨u2, hwc⟩ : ∃ z, z = wc := ⟨_, rfl⟩
        subst hwc
        obtain ⟨rfl, hS, hx⟩ := hcut
        have HX := Lib.hid hx
        have PS := Lib.hid (BaySet.plus sb_8.out hS HC.out.g2.bay (by have := HC.out.n1; have := HC.out.n2; (try simp only [cells_nil, List.length_nil]); omega))
        clear hx hS
        clear sb_8
        have S9 := Xm.size HX.out
        have sea_9 := Lib.hid (sea_8.out.xm HX.out (by omega))
        have pat_9 := Lib.hid (pat_8.out.xm HX.out (by omega))
        have res_9 := Lib.hid (res_8.out.xm HX.out (by omega))
        have X_9 := Lib.hid (X_8.out.xm HX.out (by omega))
        have Y_9 := Lib.hid (Y_8.out.xm HX.out (by omega))
        have sl_9 := Lib.hid (sl_8.out.xm HX.out (by omega))
        have fb_9 := Lib.hid (fb_8.out.xm HX.out (by omega))
        have sc_9 := Lib.hid (sc_8.out.xm HX.out (by omega))
        have gb_9 := Lib.hid (gb_8.out.xm HX.out (by omega))
        have sa_9 := Lib.hid (PS1.out.xm HX.out (by omega))
        have BB9 := Lib.hid (BB8.out.trans (Xm.below HX.out (B := w.heap.size) (by omega) (by omega)))
        clear sea_8 pat_8 res_8 X_8 Y_8 sl_8 fb_8 sc_8 gb_8 PS1 BB8
        have PS2 := PS
        clear PS HX
        go_wp2_with fail
        rw [rounds_succ]
        go_wp2_with fail
        rw [rounds_succ]
        have q9sea0 := HasO.cell (i := 0) sea_9.out rfl
        have q9sea1 := HasO.cell (i := 1) sea_9.out rfl
        have q9sea2 := HasO.cell (i := 2) sea_9.out rfl
        have q9sea3 := HasO.cell (i := 3) sea_9.out rfl
        have q9sea4 := HasO.cell (i := 4) sea_9.out rfl
        have q9sea5 := HasO.cell (i := 5) sea_9.out rfl
        have q9sea6 := HasO.cell (i := 6) sea_9.out rfl
        have q9sea7 := HasO.cell (i := 7) sea_9.out rfl
        have q9sea8 := HasO.cell (i := 8) sea_9.out rfl
        have q9sea9 := HasO.cell (i := 9) sea_9.out rfl
        have q9sea10 := HasO.cell (i := 10) sea_9.out rfl
        have q9pat0 := HasO.cell (i := 0) pat_9.out rfl
        go_wp2_with fail
        refine (groups_nil 1 L A2 lc b1 b2 n2 c2 0 _ (HB0.out.below BB9.out).1 (H20.out.below BB9.out)).mono ?_
        rintro e w10 ⟨rfl, hb10⟩
        have k10 : Below u2.heap.size u2 w10 := hb10
        clear hb10
        have S10 := k10.size
        have sea_10 := Lib.hid (sea_9.out.below k10)
        have pat_10 := Lib.hid (pat_9.out.below k10)
        have res_10 := Lib.hid (res_9.out.below k10)
        have X_10 := Lib.hid (X_9.out.below k10)
        have Y_10 := Lib.hid (Y_9.out.below k10)
        have sl_10 := Lib.hid (sl_9.out.below k10)
        have fb_10 := Lib.hid (fb_9.out.below k10)
        have sc_10 := Lib.hid (sc_9.out.below k10)
        have gb_10 := Lib.hid (gb_9.out.below k10)
        have sa_10 := Lib.hid (sa_9.out.below k10)
        have sb_10 := Lib.hid (PS2.out.below k10)
        have BB10 := Lib.hid (BB9.out.trans (k10.mono BB9.out.size))
        clear k10 sea_9 pat_9 res_9 X_9 Y_9 sl_9 fb_9 sc_9 gb_9 sa_9 PS2 BB9
        clear q9sea0 q9sea1 q9sea2 q9sea3 q9sea4 q9sea5 q9sea6 q9sea7 q9sea8 q9sea9 q9sea10 q9pat0
        go_wp2_with fail
        refine wp_loop_rounds 1 ?_
        rw [rounds_succ]
        go_wp2_with fail
        rw [rounds_succ]
        clear gb_10
        have q10sea10 := HasO.cell (i := 10) sea_10.out rfl
        go_wp2_with fail
        clear q10sea10
        have HSB := Lib.hid (StepB.mk (HB0.out.below BB10.out).1 sb_10.out sl_10.out sa_10.out sc_10.out Y_10.out X_10.out fb_10.out sea_10.out)
        have HE := Lib.hid (each_dn 144 #[.pointer (some ⟨Y, 0, none⟩), .pointer (some ⟨Z, 0, none⟩), .pointer (some ⟨X, 0, none⟩), .pointer (some ⟨Ma + 1 + 1, 0, none⟩)] (pick3 (refR (Sift (Plus (fun _ _ => false) (cellsL R1)) LandS false) 5 5) (refR (Sift (fun _ _ => false) LandS false) 5 5) (refR (Sift (Plus (Plus (fun _ _ => false) (cellsL [])) (cellsL R2)) LandS true) 5 5)) w10 (enters_of Try.func144 (by kernel_rfl) rfl) (three (fun W hW => step1_0 (HSB.out.below hW)) (fun W hW => step1_1 (HSB.out.below hW)) (fun W hW => step1_2 (HSB.out.below hW))))
        clear HSB
        refine (HE.out).mono ?_
        rintro e w11 ⟨⟨P0, P1, P2, k0, k1, k2, e0, e1, e2, rfl, hr0, hr1, hr2⟩, hb11⟩
        have k11 : Below w10.heap.size w10 w11 := hb11
        clear hb11
        have S11 := k11.size
        have sea_11 := Lib.hid (sea_10.out.below k11)
        have pat_11 := Lib.hid (pat_10.out.below k11)
        have res_11 := Lib.hid (res_10.out.below k11)
        have X_11 := Lib.hid (X_10.out.below k11)
        have Y_11 := Lib.hid (Y_10.out.below k11)
        have sl_11 := Lib.hid (sl_10.out.below k11)
        have fb_11 := Lib.hid (fb_10.out.below k11)
        have sc_11 := Lib.hid (sc_10.out.below k11)
        have sa_11 := Lib.hid (sa_10.out.below k11)
        have sb_11 := Lib.hid (sb_10.out.below k11)
        have BB11 := Lib.hid (BB10.out.trans (k11.mono BB10.out.size))
        clear k11 sea_10 pat_10 res_10 X_10 Y_10 sl_10 fb_10 sc_10 sa_10 sb_10 BB10
        clear HE
        clear sb_11
        clear sl_11
        clear sa_11
        clear sc_11
        clear Y_11
        clear X_11
        clear fb_11
        clear sea_11
        have r0_h11 := Lib.hid (hr0)
        have r1_h11 := Lib.hid (hr1)
        have r2_h11 := Lib.hid (hr2)
        clear hr0 hr1 hr2
        go_upto_region 28 with fail
        obtain ⟨RG, hRG⟩ : ∃ Z, w11.heap.size = Z := ⟨_, rfl⟩
        obtain ⟨w12, hw12⟩ : ∃ Z, (w11.alloc (.cells #[.slice P0 k0 e0, .slice P1 k1 e1, .slice P2 k2 e2] 208)) = Z := ⟨_, rfl⟩
        have k12 : Below w11.heap.size w11 w12 := by rw [← hw12]; exact ((Below.refl _ _).alloc (Nat.le_refl _) _)
        have z12 : RG < w12.heap.size := by rw [← hw12, ← hRG]; simp
        have y12 : w11.heap.size = RG := hRG
        have rg_12 : HasO w12 (RG) (.cells #[.slice P0 k0 e0, .slice P1 k1 e1, .slice P2 k2 e2] 208 (0, 0)) := by rw [← hw12, ← hRG]; have h := (HasO.new (w := w11) (o := .cells #[.slice P0 k0 e0, .slice P1 k1 e1, .slice P2 k2 e2] 208) rfl); simpa only [World.size_alloc] using h
        (try rw [hw12]); (try rw [hRG])
        clear hw12 hRG
        have S12 := k12.size
        have pat_12 := Lib.hid (pat_11.out.below k12)
        have res_12 := Lib.hid (res_11.out.below k12)
        have r0_12 := Lib.hid (r0_h11.out.below k12)
        have r1_12 := Lib.hid (r1_h11.out.below k12)
        have r2_12 := Lib.hid (r2_h11.out.below k12)
        have BB12 := Lib.hid (BB11.out.trans (k12.mono BB11.out.size))
        clear k12 pat_11 res_11 r0_h11 r1_h11 r2_h11 BB11
        have rgH_12 := Lib.hid rg_12
        clear rg_12
        have q12rg0 := HasO.cell (i := 0) rgH_12.out rfl
        have q12rg1 := HasO.cell (i := 1) rgH_12.out rfl
        have q12rg2 := HasO.cell (i := 2) rgH_12.out rfl
        have q12pat0 := HasO.cell (i := 0) pat_12.out rfl
        go_wp2_with fail
        refine (patch_dn 1000 false P0 P1 P2 k0 k1 k2 e0 e1 e2 _).mono ?_
        rintro e w13 ⟨rfl, hb13⟩
        have k13 : Below w12.heap.size w12 w13 := hb13
        clear hb13
        have S13 := k13.size
        have pat_13 := Lib.hid (pat_12.out.below k13)
        have res_13 := Lib.hid (res_12.out.below k13)
        have r0_13 := Lib.hid (r0_12.out.below k13)
        have r1_13 := Lib.hid (r1_12.out.below k13)
        have r2_13 := Lib.hid (r2_12.out.below k13)
        have rg_13 := Lib.hid (rgH_12.out.below k13)
        have BB13 := Lib.hid (BB12.out.trans (k13.mono BB12.out.size))
        clear k13 pat_12 res_12 r0_12 r1_12 r2_12 rgH_12 BB12
        clear q12rg0 q12rg1 q12rg2 q12pat0
        clear rg_13
        clear pat_13
        have q13res0 := HasO.cell (i := 0) res_13.out rfl
        have q13resf0 := HasO.frozen (i := 0) res_13.out
        have q13res1 := HasO.cell (i := 1) res_13.out rfl
        have q13resf1 := HasO.frozen (i := 1) res_13.out
        have q13res2 := HasO.cell (i := 2) res_13.out rfl
        have q13resf2 := HasO.frozen (i := 2) res_13.out
        have q13res3 := HasO.cell (i := 3) res_13.out rfl
        have q13resf3 := HasO.frozen (i := 3) res_13.out
        have q13res4 := HasO.cell (i := 4) res_13.out rfl
        have q13resf4 := HasO.frozen (i := 4) res_13.out
        go_wp2_with fail
        have X5 : Xm (Z + 1 + 1) w13 (((((w13.setCell ⟨Z + 1 + 1, 0, none⟩ (.int .i64 1000)).setCell ⟨Z + 1 + 1, 1, none⟩ (.slice P0 k0 e0)).setCell ⟨Z + 1 + 1, 2, none⟩ (.slice P1 k1 e1)).setCell ⟨Z + 1 + 1, 3, none⟩ (.slice P2 k2 e2)).setCell ⟨Z + 1 + 1, 4, none⟩ (.bool false)) := ((((((Xm.refl (Z + 1 + 1) w13).trans (Xm.set w13 (.int .i64 1000))).trans (Xm.set (w13.setCell ⟨Z + 1 + 1, 0, none⟩ (.int .i64 1000)) (.slice P0 k0 e0))).trans (Xm.set ((w13.setCell ⟨Z + 1 + 1, 0, none⟩ (.int .i64 1000)).setCell ⟨Z + 1 + 1, 1, none⟩ (.slice P0 k0 e0)) (.slice P1 k1 e1))).trans (Xm.set (((w13.setCell ⟨Z + 1 + 1, 0, none⟩ (.int .i64 1000)).setCell ⟨Z + 1 + 1, 1, none⟩ (.slice P0 k0 e0)).setCell ⟨Z + 1 + 1, 2, none⟩ (.slice P1 k1 e1)) (.slice P2 k2 e2))).trans (Xm.set ((((w13.setCell ⟨Z + 1 + 1, 0, none⟩ (.int .i64 1000)).setCell ⟨Z + 1 + 1, 1, none⟩ (.slice P0 k0 e0)).setCell ⟨Z + 1 + 1, 2, none⟩ (.slice P1 k1 e1)).setCell ⟨Z + 1 + 1, 3, none⟩ (.slice P2 k2 e2)) (.bool false)))
        have H5 : HasO (((((w13.setCell ⟨Z + 1 + 1, 0, none⟩ (.int .i64 1000)).setCell ⟨Z + 1 + 1, 1, none⟩ (.slice P0 k0 e0)).setCell ⟨Z + 1 + 1, 2, none⟩ (.slice P1 k1 e1)).setCell ⟨Z + 1 + 1, 3, none⟩ (.slice P2 k2 e2)).setCell ⟨Z + 1 + 1, 4, none⟩ (.bool false)) (Z + 1 + 1) (.cells #[.int .i64 1000, .slice P0 k0 e0, .slice P1 k1 e1, .slice P2 k2 e2, .bool false] 89 (0, 0)) := (HasO.set (i := 4) (v := .bool false) (HasO.set (i := 3) (v := .slice P2 k2 e2) (HasO.set (i := 2) (v := .slice P1 k1 e1) (HasO.set (i := 1) (v := .slice P0 k0 e0) (HasO.set (i := 0) (v := .int .i64 1000) res_13.out)))))
        generalize (((((w13.setCell ⟨Z + 1 + 1, 0, none⟩ (.int .i64 1000)).setCell ⟨Z + 1 + 1, 1, none⟩ (.slice P0 k0 e0)).setCell ⟨Z + 1 + 1, 2, none⟩ (.slice P1 k1 e1)).setCell ⟨Z + 1 + 1, 3, none⟩ (.slice P2 k2 e2)).setCell ⟨Z + 1 + 1, 4, none⟩ (.bool false)) = W5 at X5 H5 ⊢
        have f0 := HasO.cell (i := 0) H5 rfl
        have f1 := HasO.cell (i := 1) H5 rfl
        have f2 := HasO.cell (i := 2) H5 rfl
        have f3 := HasO.cell (i := 3) H5 rfl
        have f4 := HasO.cell (i := 4) H5 rfl
        refine bodyPost_ret (v := .tuple #[.agg #[.int .i64 1000, .slice P0 k0 e0, .slice P1 k1 e1, .slice P2 k2 e2, .bool false], .int .i64 0]) (by simp [results, Try.results99, go_sem, f0, f1, f2, f3, f4]) rfl ?_
        exact ⟨⟨P0, P1, P2, k0, k1, k2, e0, e1, e2, rfl, Runs.xmPatch r0_13.out res_13.out X5, Runs.xmPatch r1_13.out res_13.out X5, Runs.xmPatch r2_13.out res_13.out X5⟩, BB13.out.trans (X5.below (B := w.heap.size) (by omega) (by omega))⟩
set_option maxRecDepth 100000 in
set_option maxHeartbeats 32000000 in
theorem step_r {lo hi slo shi x y : Int} {R1 R2 : List R3} (hC : StepC 1 lo hi slo shi x y R1 R2) (L A1 A2 A : Option Addr) (lc b1 b2 ca c1 n1 c2 : Nat) (w : World) (hB : Bay w L lc b1 b2 A ca) (h1 : Runs w (.slice A2 1 c2) [(y, x, x + 1)]) (h2 : Runs w (.slice A1 n1 c1) []) :
    Calls Try.prog 99 #[.agg #[.int .i64 5, .int .i64 5, .int .i64 100, .slice L 5 lc, .slice (some ⟨b1, 0, none⟩) 1 1, .slice (some ⟨b2, 0, none⟩) 1 1, .int .i64 20, .int .i64 20, .int .i64 10, .int .i64 20, .bool false], .agg #[.int .i64 0, .slice A1 n1 c1, .slice A2 1 c2, .slice none 0 0, .bool false], .int .i64 1000] w fun e w' => (∃ P0 P1 P2 k0 k1 k2 e0 e1 e2, e = .returned (.tuple #[.agg #[.int .i64 1000, .slice P0 k0 e0, .slice P1 k1 e1, .slice P2 k2 e2, .bool false], .int .i64 0]) ∧ Runs w' (.slice P0 k0 e0) (refR (Sift (fun _ _ => false) LandS false) 5 5) ∧ Runs w' (.slice P1 k1 e1) (refR (Sift (Plus (fun _ _ => false) (cellsL R1)) LandS false) 5 5) ∧ Runs w' (.slice P2 k2 e2) (refR (Sift (Plus (Plus (fun _ _ => false) (cellsL [])) (cellsL R2)) LandS true) 5 5)) ∧ Below w.heap.size w w' := by
  have HB0 := Lib.hid hB
  have H10 := Lib.hid h1
  have H20 := Lib.hid h2
  have HC := Lib.hid hC
  have BB0 := Lib.hid (Below.refl w.heap.size w)
  clear hB h1 h2 hC
  go_enter Try.func99, Try.ntmps99
  go_upto_region 1 with fail
  obtain ⟨Z, hZ⟩ : ∃ Z, w.heap.size = Z := ⟨_, rfl⟩
  obtain ⟨w1, hw1⟩ : ∃ Z, (((w.alloc (.cells #[.int .i64 5, .int .i64 5, .int .i64 100, .slice L 5 lc, .slice (some ⟨b1, 0, none⟩) 1 1, .slice (some ⟨b2, 0, none⟩) 1 1, .int .i64 20, .int .i64 20, .int .i64 10, .int .i64 20, .bool false] 165)).alloc (.cells #[.int .i64 0, .slice A1 n1 c1, .slice A2 1 c2, .slice none 0 0, .bool false] 89)).alloc (.cells #[.int .i64 0, .slice none 0 0, .slice none 0 0, .slice none 0 0, .bool false] 89)) = Z := ⟨_, rfl⟩
  have k1 : Below w.heap.size w w1 := by rw [← hw1]; exact ((((Below.refl _ _).alloc (Nat.le_refl _) _).alloc (by simp) _).alloc (by simp; omega) _)
  have z1 : Z + 1 + 1 < w1.heap.size := by rw [← hw1, ← hZ]; simp
  have y1 : w.heap.size = Z := hZ
  have sea_1 : HasO w1 (Z) (.cells #[.int .i64 5, .int .i64 5, .int .i64 100, .slice L 5 lc, .slice (some ⟨b1, 0, none⟩) 1 1, .slice (some ⟨b2, 0, none⟩) 1 1, .int .i64 20, .int .i64 20, .int .i64 10, .int .i64 20, .bool false] 165 (0, 0)) := by rw [← hw1, ← hZ]; have h := (HasO.alloc (HasO.alloc (HasO.new (w := w) (o := .cells #[.int .i64 5, .int .i64 5, .int .i64 100, .slice L 5 lc, .slice (some ⟨b1, 0, none⟩) 1 1, .slice (some ⟨b2, 0, none⟩) 1 1, .int .i64 20, .int .i64 20, .int .i64 10, .int .i64 20, .bool false] 165) rfl) (.cells #[.int .i64 0, .slice A1 n1 c1, .slice A2 1 c2, .slice none 0 0, .bool false] 89)) (.cells #[.int .i64 0, .slice none 0 0, .slice none 0 0, .slice none 0 0, .bool false] 89)); simpa only [World.size_alloc] using h
  have pat_1 : HasO w1 (Z + 1) (.cells #[.int .i64 0, .slice A1 n1 c1, .slice A2 1 c2, .slice none 0 0, .bool false] 89 (0, 0)) := by rw [← hw1, ← hZ]; have h := (HasO.alloc (HasO.new (w := (w.alloc (.cells #[.int .i64 5, .int .i64 5, .int .i64 100, .slice L 5 lc, .slice (some ⟨b1, 0, none⟩) 1 1, .slice (some ⟨b2, 0, none⟩) 1 1, .int .i64 20, .int .i64 20, .int .i64 10, .int .i64 20, .bool false] 165))) (o := .cells #[.int .i64 0, .slice A1 n1 c1, .slice A2 1 c2, .slice none 0 0, .bool false] 89) rfl) (.cells #[.int .i64 0, .slice none 0 0, .slice none 0 0, .slice none 0 0, .bool false] 89)); simpa only [World.size_alloc] using h
  have res_1 : HasO w1 (Z + 1 + 1) (.cells #[.int .i64 0, .slice none 0 0, .slice none 0 0, .slice none 0 0, .bool false] 89 (0, 0)) := by rw [← hw1, ← hZ]; have h := (HasO.new (w := ((w.alloc (.cells #[.int .i64 5, .int .i64 5, .int .i64 100, .slice L 5 lc, .slice (some ⟨b1, 0, none⟩) 1 1, .slice (some ⟨b2, 0, none⟩) 1 1, .int .i64 20, .int .i64 20, .int .i64 10, .int .i64 20, .bool false] 165)).alloc (.cells #[.int .i64 0, .slice A1 n1 c1, .slice A2 1 c2, .slice none 0 0, .bool false] 89))) (o := .cells #[.int .i64 0, .slice none 0 0, .slice none 0 0, .slice none 0 0, .bool false] 89) rfl); simpa only [World.size_alloc] using h
  (try rw [hw1]); (try rw [hZ])
  clear hw1 hZ
  have S1 := k1.size
  have BB1 := Lib.hid (BB0.out.trans (k1.mono BB0.out.size))
  clear k1 BB0
  have seaH_1 := Lib.hid sea_1
  clear sea_1
  have patH_1 := Lib.hid pat_1
  clear pat_1
  have resH_1 := Lib.hid res_1
  clear res_1
  have q1pat0 := HasO.cell (i := 0) patH_1.out rfl
  have q1pat4 := HasO.cell (i := 4) patH_1.out rfl
  go_upto_region 3 with fail
  have hmk := makeSet
  have zp : Z + 1 < w1.heap.size := by omega
  have pc4 : w1.cell? ⟨Z + 1, 4, none⟩ = some (.bool false) := q1pat4
  have Q1 := Lib.hid (show Holds w1 [(Z + 1, 4, .bool false)] from .cons zp pc4 (.nil _))
  have LT1 := Lib.hid Q1.out.lt
  clear q1pat0 q1pat4
  go_cut [8, 9, 10, 29, 30] from 31 to 32 (fun a b o m0 m1 wx => ∃ Ml Mb X Y, m0 = .map (some Ml) ∧ m1 = .map (some Mb) ∧ a = .pointer (some ⟨X, 0, none⟩) ∧ b = .pointer (some ⟨Y, 0, none⟩) ∧ o = .bool false ∧ HasO wx X (.cells #[.map (some Ml)] 210 (0, 0)) ∧ HasO wx Y (.cells #[.map (some Mb)] 210 (0, 0)) ∧ HasO wx Ml (.map #[] 0) ∧ HasO wx Mb (.map #[] 0) ∧ Ml ≠ Mb ∧ X ≠ Y ∧ Ml ≠ X ∧ Ml ≠ Y ∧ Mb ≠ X ∧ Mb ≠ Y ∧ w1.heap.size ≤ X ∧ w1.heap.size ≤ Y ∧ w1.heap.size ≤ Ml ∧ w1.heap.size ≤ Mb ∧ Below w1.heap.size w1 wx)
  case first =>
    go_region_held3 (fun W' => W'.cell? ⟨Z + 1, 4, none⟩ = some (.bool false))
      (first | with_reducible exact holds1 Q1.out | with_reducible exact holds1 (.drew Q1.out) | with_reducible exact holds1 (Q1.out.alloc _) | with_reducible exact holds1 (.drew (Q1.out.alloc _)) | with_reducible exact holds1 ((Q1.out.alloc _).alloc _) | with_reducible exact holds1 (.drew ((Q1.out.alloc _).alloc _)) | with_reducible exact holds1 (((Q1.out.alloc _).alloc _).alloc _) | with_reducible exact holds1 (.drew (((Q1.out.alloc _).alloc _).alloc _)) | with_reducible exact holds1 ((((Q1.out.alloc _).alloc _).alloc _).alloc _) | with_reducible exact holds1 (.drew ((((Q1.out.alloc _).alloc _).alloc _).alloc _)) | with_reducible exact holds1 (Q1.out.setNew LT1.out _ _ _ (by omega)) | with_reducible exact holds1 (.drew (Q1.out.setNew LT1.out _ _ _ (by omega))) | with_reducible exact holds1 ((Q1.out.alloc _).setNew LT1.out _ _ _ (by omega)) | with_reducible exact holds1 (.drew ((Q1.out.alloc _).setNew LT1.out _ _ _ (by omega))) | with_reducible exact holds1 (((Q1.out.alloc _).alloc _).setNew LT1.out _ _ _ (by omega)) | with_reducible exact holds1 (.drew (((Q1.out.alloc _).alloc _).setNew LT1.out _ _ _ (by omega))) | with_reducible exact holds1 ((((Q1.out.alloc _).alloc _).alloc _).setNew LT1.out _ _ _ (by omega)) | with_reducible exact holds1 (.drew ((((Q1.out.alloc _).alloc _).alloc _).setNew LT1.out _ _ _ (by omega))) | with_reducible exact holds1 (((((Q1.out.alloc _).alloc _).alloc _).alloc _).setNew LT1.out _ _ _ (by omega)) | with_reducible exact holds1 (.drew (((((Q1.out.alloc _).alloc _).alloc _).alloc _).setNew LT1.out _ _ _ (by omega))) | with_reducible exact holds1 ((Q1.out.setNew LT1.out _ _ _ (by omega)).setNew LT1.out _ _ _ (by omega)) | with_reducible exact holds1 (.drew ((Q1.out.setNew LT1.out _ _ _ (by omega)).setNew LT1.out _ _ _ (by omega))) | with_reducible exact holds1 (((Q1.out.alloc _).setNew LT1.out _ _ _ (by omega)).setNew LT1.out _ _ _ (by omega)) | with_reducible exact holds1 (.drew (((Q1.out.alloc _).setNew LT1.out _ _ _ (by omega)).setNew LT1.out _ _ _ (by omega))) | with_reducible exact holds1 ((((Q1.out.alloc _).alloc _).setNew LT1.out _ _ _ (by omega)).setNew LT1.out _ _ _ (by omega)) | with_reducible exact holds1 (.drew ((((Q1.out.alloc _).alloc _).setNew LT1.out _ _ _ (by omega)).setNew LT1.out _ _ _ (by omega))) | with_reducible exact holds1 (((((Q1.out.alloc _).alloc _).alloc _).setNew LT1.out _ _ _ (by omega)).setNew LT1.out _ _ _ (by omega)) | with_reducible exact holds1 (.drew (((((Q1.out.alloc _).alloc _).alloc _).setNew LT1.out _ _ _ (by omega)).setNew LT1.out _ _ _ (by omega))) | with_reducible exact holds1 ((((((Q1.out.alloc _).alloc _).alloc _).alloc _).setNew LT1.out _ _ _ (by omega)).setNew LT1.out _ _ _ (by omega)) | with_reducible exact holds1 (.drew ((((((Q1.out.alloc _).alloc _).alloc _).alloc _).setNew LT1.out _ _ _ (by omega)).setNew LT1.out _ _ _ (by omega))) | fail)
      (first | fail)
    all_goals
      rename_i hHeld
      clear hHeld
      go_wp2_with fail
      go_meet
      refine ⟨_, _, _, _, rfl, rfl, rfl, rfl, rfl, ?_, ?_, ?_, ?_, ?_, ?_, ?_, ?_, ?_, ?_, ?_, ?_, ?_, ?_, ?_⟩
      all_goals (first | omega | ((repeat (with_reducible (first | (refine HasO.newR ?_; (first | with_reducible exact Nat.le_refl _ | with_reducible rfl | (simp only [World.size_alloc]; done) | (simp only [World.size_alloc]; omega) | omega)) | refine HasO.drewR ?_ | refine HasO.allocR ?_ | (refine HasO.setNe ?_ ?_; (first | with_reducible exact Nat.le_refl _ | with_reducible rfl | (simp only [World.size_alloc, sizeD, sizeS]; done) | (simp only [World.size_alloc, sizeD, sizeS]; omega) | omega)) | refine HasO.setMap ?_))); done) | ((repeat (with_reducible (first | exact Below.refl _ _ | refine Below.drewR ?_ | (refine Below.alloc ?_ ?_ _; rotate_left; (first | with_reducible exact Nat.le_refl _ | with_reducible rfl | (simp only [World.size_alloc]; done) | (simp only [World.size_alloc]; omega) | omega)) | (refine Below.setCell ?_ ?_ _; rotate_left; dsimp only; omega)))); done))
  case rest =>
    obtain ⟨w2, hwc⟩ : ∃ z, z = wc := ⟨_, rfl⟩
    subst hwc
    obtain ⟨Ml, Mb, X, Y, rfl, rfl, rfl, rfl, rfl, hX, hY, hMl, hMb, ne1, ne2, ne3, ne4, ne5, ne6, le1, le2, le3, le4, k2⟩ := hcut
    clear Q1 LT1 pc4 hmk
    have zMl := hMl.lt
    have zMb := hMb.lt
    have zX := hX.lt
    have zY := hY.lt
    have S2 := k2.size
    have sea_2 := Lib.hid (seaH_1.out.below k2)
    have pat_2 := Lib.hid (patH_1.out.below k2)
    have res_2 := Lib.hid (resH_1.out.below k2)
    have BB2 := Lib.hid (BB1.out.trans (k2.mono BB1.out.size))
    clear k2 seaH_1 patH_1 resH_1 BB1
    have X_h2 := Lib.hid (hX)
    have Y_h2 := Lib.hid (hY)
    have sl_h2 := Lib.hid (BaySet.new hMl)
    have sb_h2 := Lib.hid (BaySet.new hMb)
    clear hX hY hMl hMb
    have q2X0 := HasO.cell (i := 0) X_h2.out rfl
    have q2sea0 := HasO.cell (i := 0) sea_2.out rfl
    have q2sea1 := HasO.cell (i := 1) sea_2.out rfl
    have q2sea2 := HasO.cell (i := 2) sea_2.out rfl
    have q2sea3 := HasO.cell (i := 3) sea_2.out rfl
    go_wp2_with fail
    refine (add_dn L L lc 5 lc Ml 0 (fun _ _ => false) landB w2 (HB0.out.below BB2.out).1 (HB0.out.below BB2.out).1 sl_h2.out.set land_ok (by decide +kernel) (inBay_i64 land_in)).mono ?_
    rintro e v1 ⟨rfl, hS, hx⟩
    have HX := Lib.hid hx
    have SL := Lib.hid (BaySet.plus sl_h2.out hS land_in (by decide +kernel))
    clear hx hS
    clear q2X0 q2sea0 q2sea1 q2sea2 q2sea3
    clear sl_h2
    have S3 := Xm.size HX.out
    have sea_3 := Lib.hid (sea_2.out.xm HX.out (by omega))
    have pat_3 := Lib.hid (pat_2.out.xm HX.out (by omega))
    have res_3 := Lib.hid (res_2.out.xm HX.out (by omega))
    have X_3 := Lib.hid (X_h2.out.xm HX.out (by omega))
    have Y_3 := Lib.hid (Y_h2.out.xm HX.out (by omega))
    have sb_3 := Lib.hid (sb_h2.out.xm HX.out (by omega))
    have BB3 := Lib.hid (BB2.out.trans (Xm.below HX.out (B := w.heap.size) (by omega) (by omega)))
    clear sea_2 pat_2 res_2 X_h2 Y_h2 sb_h2 BB2
    clear HX
    have q3Y0 := HasO.cell (i := 0) Y_3.out rfl
    have q3sea0 := HasO.cell (i := 0) sea_3.out rfl
    have q3sea1 := HasO.cell (i := 1) sea_3.out rfl
    have q3sea2 := HasO.cell (i := 2) sea_3.out rfl
    have q3sea3 := HasO.cell (i := 3) sea_3.out rfl
    have q3pat3 := HasO.cell (i := 3) pat_3.out rfl
    go_wp2_with fail
    refine (add_dn L none lc 0 0 Mb 0 (fun _ _ => false) [] v1 (HB0.out.below BB3.out).1 (Lst.nil _) sb_3.out.set (by decide +kernel) (by decide +kernel) (fun z hz => by cases hz)).mono ?_
    rintro e v2 ⟨rfl, hS, hx⟩
    have HX := Lib.hid hx
    have SBt := Lib.hid (BaySet.plus sb_3.out hS (by decide +kernel) (by decide +kernel))
    clear hx hS
    clear q3Y0 q3sea0 q3sea1 q3sea2 q3sea3 q3pat3
    clear sb_3
    have S4 := Xm.size HX.out
    have sea_4 := Lib.hid (sea_3.out.xm HX.out (by omega))
    have pat_4 := Lib.hid (pat_3.out.xm HX.out (by omega))
    have res_4 := Lib.hid (res_3.out.xm HX.out (by omega))
    have X_4 := Lib.hid (X_3.out.xm HX.out (by omega))
    have Y_4 := Lib.hid (Y_3.out.xm HX.out (by omega))
    have sl_4 := Lib.hid (SL.out.xm HX.out (by omega))
    have BB4 := Lib.hid (BB3.out.trans (Xm.below HX.out (B := w.heap.size) (by omega) (by omega)))
    clear sea_3 pat_3 res_3 X_3 Y_3 SL BB3
    clear HX
    have hmk := makeSet
    go_upto_region 7 with fail
    clear hmk
    obtain ⟨Ma, hMa⟩ : ∃ Z, v2.heap.size = Z := ⟨_, rfl⟩
    obtain ⟨w5, hw5⟩ : ∃ Z, (((v2.alloc (.map #[] 0)).alloc (.map #[] 0)).alloc (.cells #[.map (some v2.heap.size), .map (some (v2.heap.size + 1))] 212)) = Z := ⟨_, rfl⟩
    have k5 : Below v2.heap.size v2 w5 := by rw [← hw5]; exact ((((Below.refl _ _).alloc (Nat.le_refl _) _).alloc (by simp) _).alloc (by simp; omega) _)
    have z5 : Ma + 1 + 1 < w5.heap.size := by rw [← hw5, ← hMa]; simp
    have y5 : v2.heap.size = Ma := hMa
    have ma_5 : HasO w5 (Ma) (.map #[] 0) := by rw [← hw5, ← hMa]; have h := (HasO.alloc (HasO.alloc (HasO.new (w := v2) (o := .map #[] 0) rfl) (.map #[] 0)) (.cells #[.map (some v2.heap.size), .map (some (v2.heap.size + 1))] 212)); simpa only [World.size_alloc] using h
    have mc_5 : HasO w5 (Ma + 1) (.map #[] 0) := by rw [← hw5, ← hMa]; have h := (HasO.alloc (HasO.new (w := (v2.alloc (.map #[] 0))) (o := .map #[] 0) rfl) (.cells #[.map (some v2.heap.size), .map (some (v2.heap.size + 1))] 212)); simpa only [World.size_alloc] using h
    have fb_5 : HasO w5 (Ma + 1 + 1) (.cells #[.map (some Ma), .map (some (Ma + 1))] 212 (0, 0)) := by rw [← hw5, ← hMa]; have h := (HasO.new (w := ((v2.alloc (.map #[] 0)).alloc (.map #[] 0))) (o := .cells #[.map (some v2.heap.size), .map (some (v2.heap.size + 1))] 212) rfl); simpa only [World.size_alloc] using h
    (try rw [hw5]); (try rw [hMa])
    clear hw5 hMa
    have S5 := k5.size
    have sea_5 := Lib.hid (sea_4.out.below k5)
    have pat_5 := Lib.hid (pat_4.out.below k5)
    have res_5 := Lib.hid (res_4.out.below k5)
    have X_5 := Lib.hid (X_4.out.below k5)
    have Y_5 := Lib.hid (Y_4.out.below k5)
    have sl_5 := Lib.hid (sl_4.out.below k5)
    have sb_5 := Lib.hid (SBt.out.below k5)
    have BB5 := Lib.hid (BB4.out.trans (k5.mono BB4.out.size))
    clear k5 sea_4 pat_4 res_4 X_4 Y_4 sl_4 SBt BB4
    have maH_5 := Lib.hid ma_5
    clear ma_5
    have mcH_5 := Lib.hid mc_5
    clear mc_5
    have fbH_5 := Lib.hid fb_5
    clear fb_5
    have sa_h5 := Lib.hid (BaySet.new maH_5.out)
    have sc_h5 := Lib.hid (BaySet.new mcH_5.out)
    clear maH_5
    clear mcH_5
    have q5pat1 := HasO.cell (i := 1) pat_5.out rfl
    have q5pat2 := HasO.cell (i := 2) pat_5.out rfl
    have hi0 := index_two0 A1 A2 n1 1 c1 c2
    have hi1 := index_two1 A1 A2 n1 1 c1 c2
    go_wp2_with fail
    refine wp_loop_rounds 3 ?_
    rw [rounds_succ]
    clear q5pat1 q5pat2
    have q5sea0 := HasO.cell (i := 0) sea_5.out rfl
    have q5sea1 := HasO.cell (i := 1) sea_5.out rfl
    have q5sea2 := HasO.cell (i := 2) sea_5.out rfl
    have q5sea3 := HasO.cell (i := 3) sea_5.out rfl
    have q5sea4 := HasO.cell (i := 4) sea_5.out rfl
    have q5sea5 := HasO.cell (i := 5) sea_5.out rfl
    have q5sea6 := HasO.cell (i := 6) sea_5.out rfl
    have q5sea7 := HasO.cell (i := 7) sea_5.out rfl
    have q5sea8 := HasO.cell (i := 8) sea_5.out rfl
    have q5sea9 := HasO.cell (i := 9) sea_5.out rfl
    have q5sea10 := HasO.cell (i := 10) sea_5.out rfl
    have q5pat0 := HasO.cell (i := 0) pat_5.out rfl
    go_wp2_with fail
    refine (groups_nil 0 L A1 lc b1 b2 n1 c1 0 _ (HB0.out.below BB5.out).1 (H20.out.below BB5.out)).mono ?_
    rintro e w6 ⟨rfl, hb6⟩
    have k6 : Below w5.heap.size w5 w6 := hb6
    clear hb6
    have S6 := k6.size
    have sea_6 := Lib.hid (sea_5.out.below k6)
    have pat_6 := Lib.hid (pat_5.out.below k6)
    have res_6 := Lib.hid (res_5.out.below k6)
    have X_6 := Lib.hid (X_5.out.below k6)
    have Y_6 := Lib.hid (Y_5.out.below k6)
    have sl_6 := Lib.hid (sl_5.out.below k6)
    have sb_6 := Lib.hid (sb_5.out.below k6)
    have fb_6 := Lib.hid (fbH_5.out.below k6)
    have sa_6 := Lib.hid (sa_h5.out.below k6)
    have sc_6 := Lib.hid (sc_h5.out.below k6)
    have BB6 := Lib.hid (BB5.out.trans (k6.mono BB5.out.size))
    clear k6 sea_5 pat_5 res_5 X_5 Y_5 sl_5 sb_5 fbH_5 sa_h5 sc_h5 BB5
    clear q5sea0 q5sea1 q5sea2 q5sea3 q5sea4 q5sea5 q5sea6 q5sea7 q5sea8 q5sea9 q5sea10 q5pat0
    go_wp2_with fail
    refine wp_loop_rounds 1 ?_
    rw [rounds_succ]
    go_wp2_with fail
    rw [rounds_succ]
    have q6sea0 := HasO.cell (i := 0) sea_6.out rfl
    have q6sea1 := HasO.cell (i := 1) sea_6.out rfl
    have q6sea2 := HasO.cell (i := 2) sea_6.out rfl
    have q6sea3 := HasO.cell (i := 3) sea_6.out rfl
    have q6sea4 := HasO.cell (i := 4) sea_6.out rfl
    have q6sea5 := HasO.cell (i := 5) sea_6.out rfl
    have q6sea6 := HasO.cell (i := 6) sea_6.out rfl
    have q6sea7 := HasO.cell (i := 7) sea_6.out rfl
    have q6sea8 := HasO.cell (i := 8) sea_6.out rfl
    have q6sea9 := HasO.cell (i := 9) sea_6.out rfl
    have q6sea10 := HasO.cell (i := 10) sea_6.out rfl
    have q6pat0 := HasO.cell (i := 0) pat_6.out rfl
    go_wp2_with fail
    refine (groups_one 1 lo hi HC.out.side L A A2 lc b1 b2 ca c2 x y 0 HC.out.one _ (HB0.out.below BB6.out) (H10.out.below BB6.out) (by decide)).mono ?_
    rintro e w7 ⟨⟨G, gc, R, rc, rfl, hG, hR⟩, hb7⟩
    have k7 : Below w6.heap.size w6 w7 := hb7
    clear hb7
    have S7 := k7.size
    have sea_7 := Lib.hid (sea_6.out.below k7)
    have pat_7 := Lib.hid (pat_6.out.below k7)
    have res_7 := Lib.hid (res_6.out.below k7)
    have X_7 := Lib.hid (X_6.out.below k7)
    have Y_7 := Lib.hid (Y_6.out.below k7)
    have sl_7 := Lib.hid (sl_6.out.below k7)
    have sb_7 := Lib.hid (sb_6.out.below k7)
    have fb_7 := Lib.hid (fb_6.out.below k7)
    have sa_7 := Lib.hid (sa_6.out.below k7)
    have sc_7 := Lib.hid (sc_6.out.below k7)
    have BB7 := Lib.hid (BB6.out.trans (k7.mono BB6.out.size))
    clear k7 sea_6 pat_6 res_6 X_6 Y_6 sl_6 sb_6 fb_6 sa_6 sc_6 BB6
    clear q6sea0 q6sea1 q6sea2 q6sea3 q6sea4 q6sea5 q6sea6 q6sea7 q6sea8 q6sea9 q6sea10 q6pat0
    have HRR := Lib.hid hR
    have hg0 := hG.2.1
    have hg1 := hG.2.2.1
    have hg2 := hG.2.2.2.1
    have hg3 := hG.2.2.2.2.1
    have hg4 := hG.2.2.2.2.2
    clear hR hG
    go_wp2_with fail
    refine wp_loop_rounds 2 ?_
    rw [rounds_succ]
    go_upto_region 16 with fail
    obtain ⟨GB, hGB⟩ : ∃ Z, w7.heap.size = Z := ⟨_, rfl⟩
    obtain ⟨w8, hw8⟩ : ∃ Z, (w7.alloc (.cells #[.int .i64 100, .int .i64 lo, .int .i64 100, .int .i64 hi, .slice R 1 rc] 218)) = Z := ⟨_, rfl⟩
    have k8 : Below w7.heap.size w7 w8 := by rw [← hw8]; exact ((Below.refl _ _).alloc (Nat.le_refl _) _)
    have z8 : GB < w8.heap.size := by rw [← hw8, ← hGB]; simp
    have y8 : w7.heap.size = GB := hGB
    have gb_8 : HasO w8 (GB) (.cells #[.int .i64 100, .int .i64 lo, .int .i64 100, .int .i64 hi, .slice R 1 rc] 218 (0, 0)) := by rw [← hw8, ← hGB]; have h := (HasO.new (w := w7) (o := .cells #[.int .i64 100, .int .i64 lo, .int .i64 100, .int .i64 hi, .slice R 1 rc] 218) rfl); simpa only [World.size_alloc] using h
    (try rw [hw8]); (try rw [hGB])
    clear hw8 hGB
    have KK := Lib.hid k8
    have S8 := k8.size
    have sea_8 := Lib.hid (sea_7.out.below k8)
    have pat_8 := Lib.hid (pat_7.out.below k8)
    have res_8 := Lib.hid (res_7.out.below k8)
    have X_8 := Lib.hid (X_7.out.below k8)
    have Y_8 := Lib.hid (Y_7.out.below k8)
    have sl_8 := Lib.hid (sl_7.out.below k8)
    have sb_8 := Lib.hid (sb_7.out.below k8)
    have fb_8 := Lib.hid (fb_7.out.below k8)
    have sa_8 := Lib.hid (sa_7.out.below k8)
    have sc_8 := Lib.hid (sc_7.out.below k8)
    have BB8 := Lib.hid (BB7.out.trans (k8.mono BB7.out.size))
    clear k8 sea_7 pat_7 res_7 X_7 Y_7 sl_7 sb_7 fb_7 sa_7 sc_7 BB7
    have gbH_8 := Lib.hid gb_8
    clear gb_8
    clear hg0 hg1 hg2 hg3 hg4
    have HR1 := Lib.hid (HRR.out.below (show Below w7.heap.size w7 w8 from ⟨KK.out.os, KK.out.tape, KK.out.output, KK.out.size, KK.out.block⟩))
    clear HRR KK
    go_cut [18] from 78 to 85 (fun v wx => v = .bool false ∧ SetT wx (Ma + 1) (0 + (cellsL R1).length) (Plus (fun _ _ => false) (cellsL R1)) ∧ Xm (Ma + 1) w8 wx)
    case first =>
      have HG := Lib.hid (fun W (hW : Below w8.heap.size w8 W) => grow_dn L R lc b1 b2 1 rc (Ma + 1) (0) (fun _ _ => false) 100 lo 100 hi 100 lo 100 hi (y, x, x + 1) R1 false W (HB0.out.1.below (BB8.out.trans (hW.mono BB8.out.size))) (HR1.out.below hW) (sc_8.out.set.size hW) HC.out.g1 (by have := HC.out.n1; have := HC.out.n2; (try simp only [cells_nil, List.length_nil]); omega))
      have lG := HasO.lt gbH_8.out
      have nlG : GB ≠ Ma + 1 := by omega
      have lF := HasO.lt fb_8.out
      have nlF : Ma + 1 + 1 ≠ Ma + 1 := by omega
      have lZ := HasO.lt sea_8.out
      have nlZ : Z ≠ Ma + 1 := by omega
      have Q1 := Lib.hid (show Holds w8 [(Z, 0, .int .i64 5), (Z, 1, .int .i64 5), (Z, 2, .int .i64 100), (Z, 3, .slice L 5 lc), (Z, 4, .slice (some ⟨b1, 0, none⟩) 1 1), (Z, 5, .slice (some ⟨b2, 0, none⟩) 1 1), (Z, 6, .int .i64 20), (Z, 7, .int .i64 20), (Z, 8, .int .i64 10), (Z, 9, .int .i64 20), (Z, 10, .bool false), (Ma + 1 + 1, 1, .map (some (Ma + 1))), (GB, 0, .int .i64 100), (GB, 1, .int .i64 lo), (GB, 2, .int .i64 100), (GB, 3, .int .i64 hi), (GB, 4, .slice R 1 rc)] from (.cons lZ (HasO.cell (i := 0) sea_8.out rfl) (.cons lZ (HasO.cell (i := 1) sea_8.out rfl) (.cons lZ (HasO.cell (i := 2) sea_8.out rfl) (.cons lZ (HasO.cell (i := 3) sea_8.out rfl) (.cons lZ (HasO.cell (i := 4) sea_8.out rfl) (.cons lZ (HasO.cell (i := 5) sea_8.out rfl) (.cons lZ (HasO.cell (i := 6) sea_8.out rfl) (.cons lZ (HasO.cell (i := 7) sea_8.out rfl) (.cons lZ (HasO.cell (i := 8) sea_8.out rfl) (.cons lZ (HasO.cell (i := 9) sea_8.out rfl) (.cons lZ (HasO.cell (i := 10) sea_8.out rfl) (.cons lF (HasO.cell (i := 1) fb_8.out rfl) (.cons lG (HasO.cell (i := 0) gbH_8.out rfl) (.cons lG (HasO.cell (i := 1) gbH_8.out rfl) (.cons lG (HasO.cell (i := 2) gbH_8.out rfl) (.cons lG (HasO.cell (i := 3) gbH_8.out rfl) (.cons lG (HasO.cell (i := 4) gbH_8.out rfl) (.nil _)))))))))))))))))))
      have NE := Lib.hid (show ∀ z, z ∈ ([(Z, 0, .int .i64 5), (Z, 1, .int .i64 5), (Z, 2, .int .i64 100), (Z, 3, .slice L 5 lc), (Z, 4, .slice (some ⟨b1, 0, none⟩) 1 1), (Z, 5, .slice (some ⟨b2, 0, none⟩) 1 1), (Z, 6, .int .i64 20), (Z, 7, .int .i64 20), (Z, 8, .int .i64 10), (Z, 9, .int .i64 20), (Z, 10, .bool false), (Ma + 1 + 1, 1, .map (some (Ma + 1))), (GB, 0, .int .i64 100), (GB, 1, .int .i64 lo), (GB, 2, .int .i64 100), (GB, 3, .int .i64 hi), (GB, 4, .slice R 1 rc)] : List (Nat × Nat × Value)) → z.1 ≠ Ma + 1 from (neCons nlZ (neCons nlZ (neCons nlZ (neCons nlZ (neCons nlZ (neCons nlZ (neCons nlZ (neCons nlZ (neCons nlZ (neCons nlZ (neCons nlZ (neCons nlF (neCons nlG (neCons nlG (neCons nlG (neCons nlG (neCons nlG (neNil _)))))))))))))))))))
      clear lG nlG lF nlF lZ nlZ
      go_region_held3 (fun W' => W'.cell? ⟨Z, 0, none⟩ = some (.int .i64 5) ∧ W'.cell? ⟨Z, 1, none⟩ = some (.int .i64 5) ∧ W'.cell? ⟨Z, 2, none⟩ = some (.int .i64 100) ∧ W'.cell? ⟨Z, 3, none⟩ = some (.slice L 5 lc) ∧ W'.cell? ⟨Z, 4, none⟩ = some (.slice (some ⟨b1, 0, none⟩) 1 1) ∧ W'.cell? ⟨Z, 5, none⟩ = some (.slice (some ⟨b2, 0, none⟩) 1 1) ∧ W'.cell? ⟨Z, 6, none⟩ = some (.int .i64 20) ∧ W'.cell? ⟨Z, 7, none⟩ = some (.int .i64 20) ∧ W'.cell? ⟨Z, 8, none⟩ = some (.int .i64 10) ∧ W'.cell? ⟨Z, 9, none⟩ = some (.int .i64 20) ∧ W'.cell? ⟨Z, 10, none⟩ = some (.bool false) ∧ W'.cell? ⟨Ma + 1 + 1, 1, none⟩ = some (.map (some (Ma + 1))) ∧ W'.cell? ⟨GB, 0, none⟩ = some (.int .i64 100) ∧ W'.cell? ⟨GB, 1, none⟩ = some (.int .i64 lo) ∧ W'.cell? ⟨GB, 2, none⟩ = some (.int .i64 100) ∧ W'.cell? ⟨GB, 3, none⟩ = some (.int .i64 hi) ∧ W'.cell? ⟨GB, 4, none⟩ = some (.slice R 1 rc))
        (first | with_reducible exact holds17 Q1.out | with_reducible exact holds17 (.drew Q1.out) | with_reducible exact holds17 Q2.out | fail)
        (first | (go_at_call 141; refine (HG.out _ (by first | exact Below.refl _ _ | exact drewB _)).mono ?_; rintro e v ⟨rfl, hS, hx⟩; have hx2 : Xm (Ma + 1) w8 v := (by first | exact hx | exact xm_of_drew hx); have Q2 := Lib.hid (Q1.out.xm hx2 NE.out); have HS := Lib.hid hS; have HX := Lib.hid hx2; clear hS hx hx2; skip))
      rename_i hHeld
      clear hHeld
      go_wp2_with fail
      go_meet
      exact ⟨rfl, HS.out, HX.out⟩
    case rest =>
      obtain ⟨u1, hwc⟩ : ∃ z, z = wc := ⟨_, rfl⟩
      subst hwc
      obtain ⟨rfl, hS, hx⟩ := hcut
      have HX := Lib.hid hx
      have HR2 := Lib.hid (Xm.runs sc_8.out.set HR1.out hx)
      have PS := Lib.hid (BaySet.plus sc_8.out hS HC.out.g1.bay (by have := HC.out.n1; have := HC.out.n2; (try simp only [cells_nil, List.length_nil]); omega))
      clear hx hS
      clear sc_8
      have S9 := Xm.size HX.out
      have sea_9 := Lib.hid (sea_8.out.xm HX.out (by omega))
      have pat_9 := Lib.hid (pat_8.out.xm HX.out (by omega))
      have res_9 := Lib.hid (res_8.out.xm HX.out (by omega))
      have X_9 := Lib.hid (X_8.out.xm HX.out (by omega))
      have Y_9 := Lib.hid (Y_8.out.xm HX.out (by omega))
      have sl_9 := Lib.hid (sl_8.out.xm HX.out (by omega))
      have sb_9 := Lib.hid (sb_8.out.xm HX.out (by omega))
      have fb_9 := Lib.hid (fb_8.out.xm HX.out (by omega))
      have sa_9 := Lib.hid (sa_8.out.xm HX.out (by omega))
      have gb_9 := Lib.hid (gbH_8.out.xm HX.out (by omega))
      have BB9 := Lib.hid (BB8.out.trans (Xm.below HX.out (B := w.heap.size) (by omega) (by omega)))
      clear sea_8 pat_8 res_8 X_8 Y_8 sl_8 sb_8 fb_8 sa_8 gbH_8 BB8
      have PS1 := PS
      clear PS HX
      go_upto_region 17 with fail
      go_cut [19] from 86 to 92 (fun v wx => v = .bool false ∧ SetT wx (Mb) ((0 + (cellsL []).length) + (cellsL R2).length) (Plus (Plus (fun _ _ => false) (cellsL [])) (cellsL R2)) ∧ Xm (Mb) u1 wx)
      case first =>
        have HG := Lib.hid (fun W (hW : Below u1.heap.size u1 W) => grow_dn L R lc b1 b2 1 rc (Mb) ((0 + (cellsL []).length)) (Plus (fun _ _ => false) (cellsL [])) 100 lo 100 hi 0 slo 100 shi (y, x, x + 1) R2 false W (HB0.out.1.below (BB9.out.trans (hW.mono BB9.out.size))) (HR2.out.below hW) (sb_9.out.set.size hW) HC.out.g2 (by have := HC.out.n1; have := HC.out.n2; (try simp only [cells_nil, List.length_nil]); omega))
        have lG := HasO.lt gb_9.out
        have nlG : GB ≠ Mb := by omega
        have lY := HasO.lt Y_9.out
        have nlY : Y ≠ Mb := by omega
        have lZ := HasO.lt sea_9.out
        have nlZ : Z ≠ Mb := by omega
        have Q1 := Lib.hid (show Holds u1 [(Z, 0, .int .i64 5), (Z, 1, .int .i64 5), (Z, 2, .int .i64 100), (Z, 3, .slice L 5 lc), (Z, 4, .slice (some ⟨b1, 0, none⟩) 1 1), (Z, 5, .slice (some ⟨b2, 0, none⟩) 1 1), (Z, 6, .int .i64 20), (Z, 7, .int .i64 20), (Z, 8, .int .i64 10), (Z, 9, .int .i64 20), (Z, 10, .bool false), (Y, 0, .map (some Mb)), (GB, 0, .int .i64 100), (GB, 1, .int .i64 lo), (GB, 2, .int .i64 100), (GB, 3, .int .i64 hi), (GB, 4, .slice R 1 rc)] from (.cons lZ (HasO.cell (i := 0) sea_9.out rfl) (.cons lZ (HasO.cell (i := 1) sea_9.out rfl) (.cons lZ (HasO.cell (i := 2) sea_9.out rfl) (.cons lZ (HasO.cell (i := 3) sea_9.out rfl) (.cons lZ (HasO.cell (i := 4) sea_9.out rfl) (.cons lZ (HasO.cell (i := 5) sea_9.out rfl) (.cons lZ (HasO.cell (i := 6) sea_9.out rfl) (.cons lZ (HasO.cell (i := 7) sea_9.out rfl) (.cons lZ (HasO.cell (i := 8) sea_9.out rfl) (.cons lZ (HasO.cell (i := 9) sea_9.out rfl) (.cons lZ (HasO.cell (i := 10) sea_9.out rfl) (.cons lY (HasO.cell (i := 0) Y_9.out rfl) (.cons lG (HasO.cell (i := 0) gb_9.out rfl) (.cons lG (HasO.cell (i := 1) gb_9.out rfl) (.cons lG (HasO.cell (i := 2) gb_9.out rfl) (.cons lG (HasO.cell (i := 3) gb_9.out rfl) (.cons lG (HasO.cell (i := 4) gb_9.out rfl) (.nil _)))))))))))))))))))
        have NE := Lib.hid (show ∀ z, z ∈ ([(Z, 0, .int .i64 5), (Z, 1, .int .i64 5), (Z, 2, .int .i64 100), (Z, 3, .slice L 5 lc), (Z, 4, .slice (some ⟨b1, 0, none⟩) 1 1), (Z, 5, .slice (some ⟨b2, 0, none⟩) 1 1), (Z, 6, .int .i64 20), (Z, 7, .int .i64 20), (Z, 8, .int .i64 10), (Z, 9, .int .i64 20), (Z, 10, .bool false), (Y, 0, .map (some Mb)), (GB, 0, .int .i64 100), (GB, 1, .int .i64 lo), (GB, 2, .int .i64 100), (GB, 3, .int .i64 hi), (GB, 4, .slice R 1 rc)] : List (Nat × Nat × Value)) → z.1 ≠ Mb from (neCons nlZ (neCons nlZ (neCons nlZ (neCons nlZ (neCons nlZ (neCons nlZ (neCons nlZ (neCons nlZ (neCons nlZ (neCons nlZ (neCons nlZ (neCons nlY (neCons nlG (neCons nlG (neCons nlG (neCons nlG (neCons nlG (neNil _)))))))))))))))))))
        clear lG nlG lY nlY lZ nlZ
        go_region_held3 (fun W' => W'.cell? ⟨Z, 0, none⟩ = some (.int .i64 5) ∧ W'.cell? ⟨Z, 1, none⟩ = some (.int .i64 5) ∧ W'.cell? ⟨Z, 2, none⟩ = some (.int .i64 100) ∧ W'.cell? ⟨Z, 3, none⟩ = some (.slice L 5 lc) ∧ W'.cell? ⟨Z, 4, none⟩ = some (.slice (some ⟨b1, 0, none⟩) 1 1) ∧ W'.cell? ⟨Z, 5, none⟩ = some (.slice (some ⟨b2, 0, none⟩) 1 1) ∧ W'.cell? ⟨Z, 6, none⟩ = some (.int .i64 20) ∧ W'.cell? ⟨Z, 7, none⟩ = some (.int .i64 20) ∧ W'.cell? ⟨Z, 8, none⟩ = some (.int .i64 10) ∧ W'.cell? ⟨Z, 9, none⟩ = some (.int .i64 20) ∧ W'.cell? ⟨Z, 10, none⟩ = some (.bool false) ∧ W'.cell? ⟨Y, 0, none⟩ = some (.map (some Mb)) ∧ W'.cell? ⟨GB, 0, none⟩ = some (.int .i64 100) ∧ W'.cell? ⟨GB, 1, none⟩ = some (.int .i64 lo) ∧ W'.cell? ⟨GB, 2, none⟩ = some (.int .i64 100) ∧ W'.cell? ⟨GB, 3, none⟩ = some (.int .i64 hi) ∧ W'.cell? ⟨GB, 4, none⟩ = some (.slice R 1 rc))
          (first | with_reducible exact holds17 Q1.out | with_reducible exact holds17 (.drew Q1.out) | with_reducible exact holds17 Q2.out | with_reducible exact holds17 Q3.out | fail)
          (first | (go_at_call 142; refine (still_s HC.out.m1 HC.out.m2 _).mono ?_; rintro e v0 ⟨rfl, hb⟩; have kb : Below u1.heap.size u1 v0 := (by first | exact below_plain hb | exact below_of_drew hb); have Q2 := Lib.hid (Q1.out.below kb); have HKb := Lib.hid kb; clear hb kb; skip) | (go_at_call 141; refine (HG.out _ HKb.out).mono ?_; rintro e v ⟨rfl, hS, hx⟩; have Q3 := Lib.hid (Q2.out.xm hx NE.out); have HS := Lib.hid hS; have HX := Lib.hid ((Xm.of (M := Mb) HKb.out).trans hx); clear hS hx; skip))
        rename_i hHeld
        clear hHeld
        go_wp2_with fail
        go_meet
        exact ⟨rfl, HS.out, HX.out⟩
      case rest =>
        obtain ⟨u2, hwc⟩ : ∃ z, z = wc := ⟨_, rfl⟩
        subst hwc
        obtain ⟨rfl, hS, hx⟩ := hcut
        have HX := Lib.hid hx
        have PS := Lib.hid (BaySet.plus sb_9.out hS HC.out.g2.bay (by have := HC.out.n1; have := HC.out.n2; (try simp only [cells_nil, List.length_nil]); omega))
        clear hx hS
        clear sb_9
        have S10 := Xm.size HX.out
        have sea_10 := Lib.hid (sea_9.out.xm HX.out (by omega))
        have pat_10 := Lib.hid (pat_9.out.xm HX.out (by omega))
        have res_10 := Lib.hid (res_9.out.xm HX.out (by omega))
        have X_10 := Lib.hid (X_9.out.xm HX.out (by omega))
        have Y_10 := Lib.hid (Y_9.out.xm HX.out (by omega))
        have sl_10 := Lib.hid (sl_9.out.xm HX.out (by omega))
        have fb_10 := Lib.hid (fb_9.out.xm HX.out (by omega))
        have sa_10 := Lib.hid (sa_9.out.xm HX.out (by omega))
        have gb_10 := Lib.hid (gb_9.out.xm HX.out (by omega))
        have sc_10 := Lib.hid (PS1.out.xm HX.out (by omega))
        have BB10 := Lib.hid (BB9.out.trans (Xm.below HX.out (B := w.heap.size) (by omega) (by omega)))
        clear sea_9 pat_9 res_9 X_9 Y_9 sl_9 fb_9 sa_9 gb_9 PS1 BB9
        have PS2 := PS
        clear PS HX
        go_wp2_with fail
        rw [rounds_succ]
        go_wp2_with fail
        rw [rounds_succ]
        clear gb_10
        have q10sea10 := HasO.cell (i := 10) sea_10.out rfl
        go_wp2_with fail
        clear q10sea10
        have HSB := Lib.hid (StepB.mk (HB0.out.below BB10.out).1 PS2.out sl_10.out sa_10.out sc_10.out Y_10.out X_10.out fb_10.out sea_10.out)
        have HE := Lib.hid (each_dn 144 #[.pointer (some ⟨Y, 0, none⟩), .pointer (some ⟨Z, 0, none⟩), .pointer (some ⟨X, 0, none⟩), .pointer (some ⟨Ma + 1 + 1, 0, none⟩)] (pick3 (refR (Sift (fun _ _ => false) LandS false) 5 5) (refR (Sift (Plus (fun _ _ => false) (cellsL R1)) LandS false) 5 5) (refR (Sift (Plus (Plus (fun _ _ => false) (cellsL [])) (cellsL R2)) LandS true) 5 5)) u2 (enters_of Try.func144 (by kernel_rfl) rfl) (three (fun W hW => step1_0 (HSB.out.below hW)) (fun W hW => step1_1 (HSB.out.below hW)) (fun W hW => step1_2 (HSB.out.below hW))))
        clear HSB
        refine (HE.out).mono ?_
        rintro e w11 ⟨⟨P0, P1, P2, k0, k1, k2, e0, e1, e2, rfl, hr0, hr1, hr2⟩, hb11⟩
        have k11 : Below u2.heap.size u2 w11 := hb11
        clear hb11
        have S11 := k11.size
        have sea_11 := Lib.hid (sea_10.out.below k11)
        have pat_11 := Lib.hid (pat_10.out.below k11)
        have res_11 := Lib.hid (res_10.out.below k11)
        have X_11 := Lib.hid (X_10.out.below k11)
        have Y_11 := Lib.hid (Y_10.out.below k11)
        have sl_11 := Lib.hid (sl_10.out.below k11)
        have fb_11 := Lib.hid (fb_10.out.below k11)
        have sa_11 := Lib.hid (sa_10.out.below k11)
        have sc_11 := Lib.hid (sc_10.out.below k11)
        have sb_11 := Lib.hid (PS2.out.below k11)
        have BB11 := Lib.hid (BB10.out.trans (k11.mono BB10.out.size))
        clear k11 sea_10 pat_10 res_10 X_10 Y_10 sl_10 fb_10 sa_10 sc_10 PS2 BB10
        clear HE
        clear sb_11
        clear sl_11
        clear sa_11
        clear sc_11
        clear Y_11
        clear X_11
        clear fb_11
        clear sea_11
        have r0_h11 := Lib.hid (hr0)
        have r1_h11 := Lib.hid (hr1)
        have r2_h11 := Lib.hid (hr2)
        clear hr0 hr1 hr2
        go_upto_region 28 with fail
        obtain ⟨RG, hRG⟩ : ∃ Z, w11.heap.size = Z := ⟨_, rfl⟩
        obtain ⟨w12, hw12⟩ : ∃ Z, (w11.alloc (.cells #[.slice P0 k0 e0, .slice P1 k1 e1, .slice P2 k2 e2] 208)) = Z := ⟨_, rfl⟩
        have k12 : Below w11.heap.size w11 w12 := by rw [← hw12]; exact ((Below.refl _ _).alloc (Nat.le_refl _) _)
        have z12 : RG < w12.heap.size := by rw [← hw12, ← hRG]; simp
        have y12 : w11.heap.size = RG := hRG
        have rg_12 : HasO w12 (RG) (.cells #[.slice P0 k0 e0, .slice P1 k1 e1, .slice P2 k2 e2] 208 (0, 0)) := by rw [← hw12, ← hRG]; have h := (HasO.new (w := w11) (o := .cells #[.slice P0 k0 e0, .slice P1 k1 e1, .slice P2 k2 e2] 208) rfl); simpa only [World.size_alloc] using h
        (try rw [hw12]); (try rw [hRG])
        clear hw12 hRG
        have S12 := k12.size
        have pat_12 := Lib.hid (pat_11.out.below k12)
        have res_12 := Lib.hid (res_11.out.below k12)
        have r0_12 := Lib.hid (r0_h11.out.below k12)
        have r1_12 := Lib.hid (r1_h11.out.below k12)
        have r2_12 := Lib.hid (r2_h11.out.below k12)
        have BB12 := Lib.hid (BB11.out.trans (k12.mono BB11.out.size))
        clear k12 pat_11 res_11 r0_h11 r1_h11 r2_h11 BB11
        have rgH_12 := Lib.hid rg_12
        clear rg_12
        have q12rg0 := HasO.cell (i := 0) rgH_12.out rfl
        have q12rg1 := HasO.cell (i := 1) rgH_12.out rfl
        have q12rg2 := HasO.cell (i := 2) rgH_12.out rfl
        have q12pat0 := HasO.cell (i := 0) pat_12.out rfl
        go_wp2_with fail
        refine (patch_dn 1000 false P0 P1 P2 k0 k1 k2 e0 e1 e2 _).mono ?_
        rintro e w13 ⟨rfl, hb13⟩
        have k13 : Below w12.heap.size w12 w13 := hb13
        clear hb13
        have S13 := k13.size
        have pat_13 := Lib.hid (pat_12.out.below k13)
        have res_13 := Lib.hid (res_12.out.below k13)
        have r0_13 := Lib.hid (r0_12.out.below k13)
        have r1_13 := Lib.hid (r1_12.out.below k13)
        have r2_13 := Lib.hid (r2_12.out.below k13)
        have rg_13 := Lib.hid (rgH_12.out.below k13)
        have BB13 := Lib.hid (BB12.out.trans (k13.mono BB12.out.size))
        clear k13 pat_12 res_12 r0_12 r1_12 r2_12 rgH_12 BB12
        clear q12rg0 q12rg1 q12rg2 q12pat0
        clear rg_13
        clear pat_13
        have q13res0 := HasO.cell (i := 0) res_13.out rfl
        have q13resf0 := HasO.frozen (i := 0) res_13.out
        have q13res1 := HasO.cell (i := 1) res_13.out rfl
        have q13resf1 := HasO.frozen (i := 1) res_13.out
        have q13res2 := HasO.cell (i := 2) res_13.out rfl
        have q13resf2 := HasO.frozen (i := 2) res_13.out
        have q13res3 := HasO.cell (i := 3) res_13.out rfl
        have q13resf3 := HasO.frozen (i := 3) res_13.out
        have q13res4 := HasO.cell (i := 4) res_13.out rfl
        have q13resf4 := HasO.frozen (i := 4) res_13.out
        go_wp2_with fail
        have X5 : Xm (Z + 1 + 1) w13 (((((w13.setCell ⟨Z + 1 + 1, 0, none⟩ (.int .i64 1000)).setCell ⟨Z + 1 + 1, 1, none⟩ (.slice P0 k0 e0)).setCell ⟨Z + 1 + 1, 2, none⟩ (.slice P1 k1 e1)).setCell ⟨Z + 1 + 1, 3, none⟩ (.slice P2 k2 e2)).setCell ⟨Z + 1 + 1, 4, none⟩ (.bool false)) := ((((((Xm.refl (Z + 1 + 1) w13).trans (Xm.set w13 (.int .i64 1000))).trans (Xm.set (w13.setCell ⟨Z + 1 + 1, 0, none⟩ (.int .i64 1000)) (.slice P0 k0 e0))).trans (Xm.set ((w13.setCell ⟨Z + 1 + 1, 0, none⟩ (.int .i64 1000)).setCell ⟨Z + 1 + 1, 1, none⟩ (.slice P0 k0 e0)) (.slice P1 k1 e1))).trans (Xm.set (((w13.setCell ⟨Z + 1 + 1, 0, none⟩ (.int .i64 1000)).setCell ⟨Z + 1 + 1, 1, none⟩ (.slice P0 k0 e0)).setCell ⟨Z + 1 + 1, 2, none⟩ (.slice P1 k1 e1)) (.slice P2 k2 e2))).trans (Xm.set ((((w13.setCell ⟨Z + 1 + 1, 0, none⟩ (.int .i64 1000)).setCell ⟨Z + 1 + 1, 1, none⟩ (.slice P0 k0 e0)).setCell ⟨Z + 1 + 1, 2, none⟩ (.slice P1 k1 e1)).setCell ⟨Z + 1 + 1, 3, none⟩ (.slice P2 k2 e2)) (.bool false)))
        have H5 : HasO (((((w13.setCell ⟨Z + 1 + 1, 0, none⟩ (.int .i64 1000)).setCell ⟨Z + 1 + 1, 1, none⟩ (.slice P0 k0 e0)).setCell ⟨Z + 1 + 1, 2, none⟩ (.slice P1 k1 e1)).setCell ⟨Z + 1 + 1, 3, none⟩ (.slice P2 k2 e2)).setCell ⟨Z + 1 + 1, 4, none⟩ (.bool false)) (Z + 1 + 1) (.cells #[.int .i64 1000, .slice P0 k0 e0, .slice P1 k1 e1, .slice P2 k2 e2, .bool false] 89 (0, 0)) := (HasO.set (i := 4) (v := .bool false) (HasO.set (i := 3) (v := .slice P2 k2 e2) (HasO.set (i := 2) (v := .slice P1 k1 e1) (HasO.set (i := 1) (v := .slice P0 k0 e0) (HasO.set (i := 0) (v := .int .i64 1000) res_13.out)))))
        generalize (((((w13.setCell ⟨Z + 1 + 1, 0, none⟩ (.int .i64 1000)).setCell ⟨Z + 1 + 1, 1, none⟩ (.slice P0 k0 e0)).setCell ⟨Z + 1 + 1, 2, none⟩ (.slice P1 k1 e1)).setCell ⟨Z + 1 + 1, 3, none⟩ (.slice P2 k2 e2)).setCell ⟨Z + 1 + 1, 4, none⟩ (.bool false)) = W5 at X5 H5 ⊢
        have f0 := HasO.cell (i := 0) H5 rfl
        have f1 := HasO.cell (i := 1) H5 rfl
        have f2 := HasO.cell (i := 2) H5 rfl
        have f3 := HasO.cell (i := 3) H5 rfl
        have f4 := HasO.cell (i := 4) H5 rfl
        refine bodyPost_ret (v := .tuple #[.agg #[.int .i64 1000, .slice P0 k0 e0, .slice P1 k1 e1, .slice P2 k2 e2, .bool false], .int .i64 0]) (by simp [results, Try.results99, go_sem, f0, f1, f2, f3, f4]) rfl ?_
        exact ⟨⟨P0, P1, P2, k0, k1, k2, e0, e1, e2, rfl, Runs.xmPatch r0_13.out res_13.out X5, Runs.xmPatch r1_13.out res_13.out X5, Runs.xmPatch r2_13.out res_13.out X5⟩, BB13.out.trans (X5.below (B := w.heap.size) (by omega) (by omega))⟩
end Go.Proofs.Ytnbdnnbeiohmgaa
