/- The walk of the law GridNames. -/
import Derived.Test.YtnbdnnbeiohmgaaGnA
import Derived.Test.YtnbdnnbeiohmgaaGnB
import Derived.Deep.RegionHeld3
namespace Go.Proofs.Ytnbdnnbeiohmgaa
open Go.RowKit Go.Shelf Go.Lib

theorem gn_one11 (w : World) : Calls Try.prog 17 #[.int .i64 1, .int .i64 1] w fun e w' => (∃ v, e = .returned v ∧ Runs w' v [(1, 1, 2)]) ∧ Below w.heap.size w w' := one_gr 1 1 w (by omega)
theorem gn_one21 (w : World) : Calls Try.prog 17 #[.int .i64 2, .int .i64 1] w fun e w' => (∃ v, e = .returned v ∧ Runs w' v [(1, 2, 3)]) ∧ Below w.heap.size w w' := one_gr 2 1 w (by omega)
theorem gn_one00 (w : World) : Calls Try.prog 17 #[.int .i64 0, .int .i64 0] w fun e w' => (∃ v, e = .returned v ∧ Runs w' v [(0, 0, 1)]) ∧ Below w.heap.size w w' := one_gr 0 0 w (by omega)
theorem gn_one01 (w : World) : Calls Try.prog 17 #[.int .i64 0, .int .i64 1] w fun e w' => (∃ v, e = .returned v ∧ Runs w' v [(1, 0, 1)]) ∧ Below w.heap.size w w' := one_gr 0 1 w (by omega)
theorem gn_cell_a (vL : Value) (w : World) (h : Runs w vL [(0, 0, 2)]) : Calls Try.prog 15 #[.agg #[.int .i64 4, .int .i64 3, .int .i64 10, vL], .agg #[.int .i64 40, .int .i64 0]] w fun e w' => e = .returned (.tuple #[.agg #[.int .i64 0, .int .i64 0], .int .i64 7]) ∧ Below w.heap.size w w' := by
  have h' := cellOf_gr 4 3 10 40 0 vL [(0, 0, 2)] w h
  rw [cellN_a] at h'
  exact h'
theorem gn_cell_b (vL : Value) (w : World) (h : Runs w vL [(0, 0, 2)]) : Calls Try.prog 15 #[.agg #[.int .i64 4, .int .i64 3, .int .i64 10, vL], .agg #[.int .i64 (-1), .int .i64 5]] w fun e w' => e = .returned (.tuple #[.agg #[.int .i64 0, .int .i64 0], .int .i64 7]) ∧ Below w.heap.size w w' := by
  have h' := cellOf_gr 4 3 10 (-1) 5 vL [(0, 0, 2)] w h
  rw [cellN_b] at h'
  exact h'
theorem growN0 (vL v : Value) (w : World) (hL : Runs w vL [(0, 0, 2)]) (hv : Runs w v [(1, 1, 2)]) :
    Calls Try.prog 11 #[.agg #[.int .i64 4, .int .i64 3, .int .i64 10, vL], v, .agg #[.int .i64 0, .int .i64 0, .int .i64 0, .int .i64 0]] w fun e w' => (∃ v', e = .returned (.tuple #[v', .bool false, .int .i64 0]) ∧ Runs w' v' [(1, 1, 2)]) ∧ Below w.heap.size w w' :=
  growN vL v w 0 [(1, 1, 2)] false hL hv (by decide +kernel) (by decide +kernel) (by decide) (by decide +kernel)
theorem growN1 (vL v : Value) (w : World) (hL : Runs w vL [(0, 0, 2)]) (hv : Runs w v [(1, 1, 2)]) :
    Calls Try.prog 11 #[.agg #[.int .i64 4, .int .i64 3, .int .i64 10, vL], v, .agg #[.int .i64 1, .int .i64 0, .int .i64 1, .int .i64 0]] w fun e w' => (∃ v', e = .returned (.tuple #[v', .bool false, .int .i64 0]) ∧ Runs w' v' [(1, 1, 3)]) ∧ Below w.heap.size w w' :=
  growN vL v w 1 [(1, 1, 3)] false hL hv (by decide +kernel) (by decide +kernel) (by decide) (by decide +kernel)
theorem disc_rowN (r : Int) (f : Nat → Int × Int) (h : ∀ y, y < 3 → discRow 10 5 5 r y = f y) : fillF 4 (discRow 10 5 5 r) 3 = fillF 4 f 3 := by
  funext y
  unfold fillF
  by_cases hy : y < 3
  · rw [h y hy]
  · rw [if_neg hy, if_neg hy]
theorem disc_4 : rowsR (fillF 4 (discRow 10 5 5 4) 3) 256 = [(0, 0, 1)] := by
  rw [disc_rowN 4 (fun y => if y = 0 then (0, 0) else (0, -1)) (fun y hy => by
    have e0 : rootZ 16 = 4 := rootZ_eq (by decide) (by decide) (by decide)
    match y, hy with
    | 0, _ => unfold discRow; rw [show awayZ 10 5 ((0 : Nat) : Int) = 0 by decide +kernel, if_neg (by decide), show (4 * 4 - 0 * 0 : Int) = 16 by decide, e0]; decide
    | 1, _ => unfold discRow; rw [show awayZ 10 5 ((1 : Nat) : Int) = 5 by decide +kernel, if_pos (by decide)]; decide
    | 2, _ => unfold discRow; rw [show awayZ 10 5 ((2 : Nat) : Int) = 15 by decide +kernel, if_pos (by decide)]; decide)]
  decide +kernel
theorem disc_5 : rowsR (fillF 4 (discRow 10 5 5 5) 3) 256 = [(0, 0, 2), (1, 0, 1)] := by
  rw [disc_rowN 5 (fun y => if y = 0 then (0, 1) else if y = 1 then (0, 0) else (0, -1)) (fun y hy => by
    have e0 : rootZ 25 = 5 := rootZ_eq (by decide) (by decide) (by decide)
    have e1 : rootZ 0 = 0 := rootZ_eq (by decide) (by decide) (by decide)
    match y, hy with
    | 0, _ => unfold discRow; rw [show awayZ 10 5 ((0 : Nat) : Int) = 0 by decide +kernel, if_neg (by decide), show (5 * 5 - 0 * 0 : Int) = 25 by decide, e0]; decide
    | 1, _ => unfold discRow; rw [show awayZ 10 5 ((1 : Nat) : Int) = 5 by decide +kernel, if_neg (by decide), show (5 * 5 - 5 * 5 : Int) = 0 by decide, e1]; decide
    | 2, _ => unfold discRow; rw [show awayZ 10 5 ((2 : Nat) : Int) = 15 by decide +kernel, if_pos (by decide)]; decide)]
  decide +kernel
theorem discN4 (vL : Value) (w : World) (hL : Runs w vL [(0, 0, 2)]) :
    Calls Try.prog 27 #[.agg #[.int .i64 4, .int .i64 3, .int .i64 10, vL], .agg #[.int .i64 5, .int .i64 5], .int .i64 4] w fun e w' => (∃ v', e = .returned (.tuple #[v', .int .i64 0]) ∧ Runs w' v' [(0, 0, 1)]) ∧ Below w.heap.size w w' :=
  discN vL w 4 [(0, 0, 1)] hL (by decide +kernel) disc_4
theorem discN5 (vL : Value) (w : World) (hL : Runs w vL [(0, 0, 2)]) :
    Calls Try.prog 27 #[.agg #[.int .i64 4, .int .i64 3, .int .i64 10, vL], .agg #[.int .i64 5, .int .i64 5], .int .i64 5] w fun e w' => (∃ v', e = .returned (.tuple #[v', .int .i64 0]) ∧ Runs w' v' [(0, 0, 2), (1, 0, 1)]) ∧ Below w.heap.size w w' :=
  discN vL w 5 [(0, 0, 2), (1, 0, 1)] hL (by decide +kernel) disc_5

set_option maxRecDepth 100000 in
set_option maxHeartbeats 32000000 in
theorem gnames_gr (w : World) : Calls Try.prog 7 #[] w fun e w' => e = .returned (.bool true) ∧ Below w.heap.size w w' := by
  have B0 := Below.refl w.heap.size w
  go_enter Try.func7, Try.ntmps7
  go_wp2_with fail
  refine (little_gr _).mono ?_
  rintro e w1 ⟨⟨vL, rfl, hL⟩, hb1⟩
  have k1 : Below w.heap.size w w1 := hb1
  clear hb1
  have s1 := k1.size
  have B1 := B0.trans (k1.mono B0.size)
  clear k1 B0
  obtain ⟨A, c, rfl, -⟩ := (show Runs w1 vL [(0, 0, 2)] from hL)
  have HL1 := Lib.hid (show Runs w1 (.slice A 1 c) [(0, 0, 2)] from hL)
  clear hL
  go_upto_region 2 with fail
  obtain ⟨GB, hGB⟩ : ∃ Z, w1.heap.size = Z := ⟨_, rfl⟩
  obtain ⟨w2, hw2⟩ : ∃ Z, w1.alloc (.cells #[.int .i64 4, .int .i64 3, .int .i64 10, .slice A 1 c] 24) = Z := ⟨_, rfl⟩
  have k2 : Below w1.heap.size w1 w2 := by rw [← hw2]; exact (Below.refl _ _).alloc (Nat.le_refl _) _
  have z2 : GB < w2.heap.size := by rw [← hw2, ← hGB]; simp
  have XGB2a : w2.cell? ⟨GB, 0, none⟩ = some (.int .i64 4) := by rw [← hw2, ← hGB]; simp [go_sem]
  have XGB2b : w2.cell? ⟨GB, 1, none⟩ = some (.int .i64 3) := by rw [← hw2, ← hGB]; simp [go_sem]
  have XGB2c : w2.cell? ⟨GB, 2, none⟩ = some (.int .i64 10) := by rw [← hw2, ← hGB]; simp [go_sem]
  have XGB2d : w2.cell? ⟨GB, 3, none⟩ = some (.slice A 1 c) := by rw [← hw2, ← hGB]; simp [go_sem]
  rw [hw2]
  rw [hGB]
  clear hw2
  have s2 := k2.size
  have B2 := B1.trans (k2.mono B1.size)
  have HL2 := Lib.hid (HL1.out.below k2)
  clear k2 HL1 B1
  go_wp2_with fail
  refine (gn_cell_a _ _ HL2.out).mono ?_
  rintro e w3 ⟨rfl, hb3⟩
  have k3 : Below w2.heap.size w2 w3 := hb3
  clear hb3
  have s3 := k3.size
  have B3 := B2.trans (k3.mono B2.size)
  have HL3 := Lib.hid (HL2.out.below k3)
  have XGB3a := (k3.cell (p := ⟨GB, 0, none⟩) (by show GB < _; omega)).trans XGB2a
  have XGB3b := (k3.cell (p := ⟨GB, 1, none⟩) (by show GB < _; omega)).trans XGB2b
  have XGB3c := (k3.cell (p := ⟨GB, 2, none⟩) (by show GB < _; omega)).trans XGB2c
  have XGB3d := (k3.cell (p := ⟨GB, 3, none⟩) (by show GB < _; omega)).trans XGB2d
  clear k3 HL2 XGB2a XGB2b XGB2c XGB2d B2
  go_upto_region 3 with fail
  obtain ⟨CA, hCA⟩ : ∃ Z, w3.heap.size = Z := ⟨_, rfl⟩
  obtain ⟨w4, hw4⟩ : ∃ Z, w3.alloc (.cells #[.int .i64 0, .int .i64 0] 39) = Z := ⟨_, rfl⟩
  have k4 : Below w3.heap.size w3 w4 := by rw [← hw4]; exact (Below.refl _ _).alloc (Nat.le_refl _) _
  have z4 : CA < w4.heap.size := by rw [← hw4, ← hCA]; simp
  have XCA4a : w4.cell? ⟨CA, 0, none⟩ = some (.int .i64 0) := by rw [← hw4, ← hCA]; simp [go_sem]
  have XCA4b : w4.cell? ⟨CA, 1, none⟩ = some (.int .i64 0) := by rw [← hw4, ← hCA]; simp [go_sem]
  rw [hw4]
  rw [hCA]
  clear hw4
  have s4 := k4.size
  have B4 := B3.trans (k4.mono B3.size)
  have HL4 := Lib.hid (HL3.out.below k4)
  have XGB4a := (k4.cell (p := ⟨GB, 0, none⟩) (by show GB < _; omega)).trans XGB3a
  have XGB4b := (k4.cell (p := ⟨GB, 1, none⟩) (by show GB < _; omega)).trans XGB3b
  have XGB4c := (k4.cell (p := ⟨GB, 2, none⟩) (by show GB < _; omega)).trans XGB3c
  have XGB4d := (k4.cell (p := ⟨GB, 3, none⟩) (by show GB < _; omega)).trans XGB3d
  clear k4 HL3 XGB3a XGB3b XGB3c XGB3d B3
  clear XCA4a XCA4b
  go_wp2_with fail
  refine (gn_cell_b _ _ HL4.out).mono ?_
  rintro e w5 ⟨rfl, hb5⟩
  have k5 : Below w4.heap.size w4 w5 := hb5
  clear hb5
  have s5 := k5.size
  have B5 := B4.trans (k5.mono B4.size)
  have HL5 := Lib.hid (HL4.out.below k5)
  have XGB5a := (k5.cell (p := ⟨GB, 0, none⟩) (by show GB < _; omega)).trans XGB4a
  have XGB5b := (k5.cell (p := ⟨GB, 1, none⟩) (by show GB < _; omega)).trans XGB4b
  have XGB5c := (k5.cell (p := ⟨GB, 2, none⟩) (by show GB < _; omega)).trans XGB4c
  have XGB5d := (k5.cell (p := ⟨GB, 3, none⟩) (by show GB < _; omega)).trans XGB4d
  clear k5 HL4 XGB4a XGB4b XGB4c XGB4d B4
  go_upto_region 4 with fail
  obtain ⟨CB, hCB⟩ : ∃ Z, w5.heap.size = Z := ⟨_, rfl⟩
  obtain ⟨w6, hw6⟩ : ∃ Z, w5.alloc (.cells #[.int .i64 0, .int .i64 0] 39) = Z := ⟨_, rfl⟩
  have k6 : Below w5.heap.size w5 w6 := by rw [← hw6]; exact (Below.refl _ _).alloc (Nat.le_refl _) _
  have z6 : CB < w6.heap.size := by rw [← hw6, ← hCB]; simp
  have XCB6a : w6.cell? ⟨CB, 0, none⟩ = some (.int .i64 0) := by rw [← hw6, ← hCB]; simp [go_sem]
  have XCB6b : w6.cell? ⟨CB, 1, none⟩ = some (.int .i64 0) := by rw [← hw6, ← hCB]; simp [go_sem]
  rw [hw6]
  rw [hCB]
  clear hw6
  have s6 := k6.size
  have B6 := B5.trans (k6.mono B5.size)
  have HL6 := Lib.hid (HL5.out.below k6)
  have XGB6a := (k6.cell (p := ⟨GB, 0, none⟩) (by show GB < _; omega)).trans XGB5a
  have XGB6b := (k6.cell (p := ⟨GB, 1, none⟩) (by show GB < _; omega)).trans XGB5b
  have XGB6c := (k6.cell (p := ⟨GB, 2, none⟩) (by show GB < _; omega)).trans XGB5c
  have XGB6d := (k6.cell (p := ⟨GB, 3, none⟩) (by show GB < _; omega)).trans XGB5d
  clear k6 HL5 XGB5a XGB5b XGB5c XGB5d B5
  clear XCB6a XCB6b
  go_upto_region 5 with fail
  obtain ⟨PB, hPB⟩ : ∃ Z, w6.heap.size = Z := ⟨_, rfl⟩
  obtain ⟨w7, hw7⟩ : ∃ Z, w6.alloc (.cells #[.int .i64 1, .int .i64 0, .int .i64 1, .int .i64 0] 28) = Z := ⟨_, rfl⟩
  have k7 : Below w6.heap.size w6 w7 := by rw [← hw7]; exact (Below.refl _ _).alloc (Nat.le_refl _) _
  have z7 : PB < w7.heap.size := by rw [← hw7, ← hPB]; simp
  have XPB7a : w7.cell? ⟨PB, 0, none⟩ = some (.int .i64 1) := by rw [← hw7, ← hPB]; simp [go_sem]
  have XPB7b : w7.cell? ⟨PB, 1, none⟩ = some (.int .i64 0) := by rw [← hw7, ← hPB]; simp [go_sem]
  have XPB7c : w7.cell? ⟨PB, 2, none⟩ = some (.int .i64 1) := by rw [← hw7, ← hPB]; simp [go_sem]
  have XPB7d : w7.cell? ⟨PB, 3, none⟩ = some (.int .i64 0) := by rw [← hw7, ← hPB]; simp [go_sem]
  rw [hw7]
  rw [hPB]
  clear hw7
  have s7 := k7.size
  have B7 := B6.trans (k7.mono B6.size)
  have HL7 := Lib.hid (HL6.out.below k7)
  have XGB7a := (k7.cell (p := ⟨GB, 0, none⟩) (by show GB < _; omega)).trans XGB6a
  have XGB7b := (k7.cell (p := ⟨GB, 1, none⟩) (by show GB < _; omega)).trans XGB6b
  have XGB7c := (k7.cell (p := ⟨GB, 2, none⟩) (by show GB < _; omega)).trans XGB6c
  have XGB7d := (k7.cell (p := ⟨GB, 3, none⟩) (by show GB < _; omega)).trans XGB6d
  clear k7 HL6 XGB6a XGB6b XGB6c XGB6d B6
  have HO := Lib.hid gn_one11
  have yGB : GB < w7.heap.size := by omega
  go_region_held3 (fun W' => W'.cell? ⟨GB, 0, none⟩ = some (.int .i64 4) ∧ W'.cell? ⟨GB, 1, none⟩ = some (.int .i64 3) ∧ W'.cell? ⟨GB, 2, none⟩ = some (.int .i64 10) ∧ W'.cell? ⟨GB, 3, none⟩ = some (.slice A 1 c))
    (first | exact ⟨XGB7a, XGB7b, XGB7c, XGB7d⟩ | exact ⟨dGBa, dGBb, dGBc, dGBd⟩ | exact ⟨qGBa, qGBb, qGBc, qGBd⟩)
    (first | (go_at_call 17; (with_reducible refine (HO.out _).mono ?_); rintro e w8a ⟨⟨va, rfl, hva⟩, hba⟩; have dGBa := (hba.cell (p := ⟨GB, 0, none⟩) yGB).trans XGB7a; have dGBb := (hba.cell (p := ⟨GB, 1, none⟩) yGB).trans XGB7b; have dGBc := (hba.cell (p := ⟨GB, 2, none⟩) yGB).trans XGB7c; have dGBd := (hba.cell (p := ⟨GB, 3, none⟩) yGB).trans XGB7d; have kba : Below w7.heap.size w7 w8a := ⟨hba.os, hba.tape, hba.output, hba.size, hba.block⟩; have HG := Lib.hid (growN0 (.slice A 1 c) va w8a (HL7.out.below kba) hva); have xGB := Nat.lt_of_lt_of_le yGB kba.size; skip) | (go_at_call 11; (with_reducible refine HG.out.mono ?_); rintro e w8 ⟨⟨vC, rfl, hvb⟩, hbb⟩; have qGBa := (hbb.cell (p := ⟨GB, 0, none⟩) xGB).trans dGBa; have qGBb := (hbb.cell (p := ⟨GB, 1, none⟩) xGB).trans dGBb; have qGBc := (hbb.cell (p := ⟨GB, 2, none⟩) xGB).trans dGBc; have qGBd := (hbb.cell (p := ⟨GB, 3, none⟩) xGB).trans dGBd; skip))
  rename_i hHeld
  clear hHeld
  have kbb : Below w8a.heap.size w8a w8 := ⟨hbb.os, hbb.tape, hbb.output, hbb.size, hbb.block⟩
  have k8 : Below w7.heap.size w7 w8 := kba.trans (kbb.mono kba.size)
  have HN := Lib.hid hvb
  clear hba hbb kba kbb HO HG hva hvb dGBa dGBb dGBc dGBd qGBa qGBb qGBc qGBd yGB xGB
  have s8 := k8.size
  have B8 := B7.trans (k8.mono B7.size)
  have HL8 := Lib.hid (HL7.out.below k8)
  have XGB8a := (k8.cell (p := ⟨GB, 0, none⟩) (by show GB < _; omega)).trans XGB7a
  have XGB8b := (k8.cell (p := ⟨GB, 1, none⟩) (by show GB < _; omega)).trans XGB7b
  have XGB8c := (k8.cell (p := ⟨GB, 2, none⟩) (by show GB < _; omega)).trans XGB7c
  have XGB8d := (k8.cell (p := ⟨GB, 3, none⟩) (by show GB < _; omega)).trans XGB7d
  have XPB8a := (k8.cell (p := ⟨PB, 0, none⟩) (by show PB < _; omega)).trans XPB7a
  have XPB8b := (k8.cell (p := ⟨PB, 1, none⟩) (by show PB < _; omega)).trans XPB7b
  have XPB8c := (k8.cell (p := ⟨PB, 2, none⟩) (by show PB < _; omega)).trans XPB7c
  have XPB8d := (k8.cell (p := ⟨PB, 3, none⟩) (by show PB < _; omega)).trans XPB7d
  clear k8 HL7 XGB7a XGB7b XGB7c XGB7d XPB7a XPB7b XPB7c XPB7d B7
  have HC8 := HN
  clear HN
  go_upto_region 6 with fail
  have HO := Lib.hid gn_one11
  have yGB : GB < w8.heap.size := by omega
  have yPB : PB < w8.heap.size := by omega
  go_region_held3 (fun W' => W'.cell? ⟨GB, 0, none⟩ = some (.int .i64 4) ∧ W'.cell? ⟨GB, 1, none⟩ = some (.int .i64 3) ∧ W'.cell? ⟨GB, 2, none⟩ = some (.int .i64 10) ∧ W'.cell? ⟨GB, 3, none⟩ = some (.slice A 1 c) ∧ W'.cell? ⟨PB, 0, none⟩ = some (.int .i64 1) ∧ W'.cell? ⟨PB, 1, none⟩ = some (.int .i64 0) ∧ W'.cell? ⟨PB, 2, none⟩ = some (.int .i64 1) ∧ W'.cell? ⟨PB, 3, none⟩ = some (.int .i64 0))
    (first | exact ⟨XGB8a, XGB8b, XGB8c, XGB8d, XPB8a, XPB8b, XPB8c, XPB8d⟩ | exact ⟨dGBa, dGBb, dGBc, dGBd, dPBa, dPBb, dPBc, dPBd⟩ | exact ⟨qGBa, qGBb, qGBc, qGBd, qPBa, qPBb, qPBc, qPBd⟩)
    (first | (go_at_call 17; (with_reducible refine (HO.out _).mono ?_); rintro e w9a ⟨⟨va, rfl, hva⟩, hba⟩; have dGBa := (hba.cell (p := ⟨GB, 0, none⟩) yGB).trans XGB8a; have dGBb := (hba.cell (p := ⟨GB, 1, none⟩) yGB).trans XGB8b; have dGBc := (hba.cell (p := ⟨GB, 2, none⟩) yGB).trans XGB8c; have dGBd := (hba.cell (p := ⟨GB, 3, none⟩) yGB).trans XGB8d; have dPBa := (hba.cell (p := ⟨PB, 0, none⟩) yPB).trans XPB8a; have dPBb := (hba.cell (p := ⟨PB, 1, none⟩) yPB).trans XPB8b; have dPBc := (hba.cell (p := ⟨PB, 2, none⟩) yPB).trans XPB8c; have dPBd := (hba.cell (p := ⟨PB, 3, none⟩) yPB).trans XPB8d; have kba : Below w8.heap.size w8 w9a := ⟨hba.os, hba.tape, hba.output, hba.size, hba.block⟩; have HG := Lib.hid (growN1 (.slice A 1 c) va w9a (HL8.out.below kba) hva); have xGB := Nat.lt_of_lt_of_le yGB kba.size; have xPB := Nat.lt_of_lt_of_le yPB kba.size; skip) | (go_at_call 11; (with_reducible refine HG.out.mono ?_); rintro e w9 ⟨⟨vD, rfl, hvb⟩, hbb⟩; have qGBa := (hbb.cell (p := ⟨GB, 0, none⟩) xGB).trans dGBa; have qGBb := (hbb.cell (p := ⟨GB, 1, none⟩) xGB).trans dGBb; have qGBc := (hbb.cell (p := ⟨GB, 2, none⟩) xGB).trans dGBc; have qGBd := (hbb.cell (p := ⟨GB, 3, none⟩) xGB).trans dGBd; have qPBa := (hbb.cell (p := ⟨PB, 0, none⟩) xPB).trans dPBa; have qPBb := (hbb.cell (p := ⟨PB, 1, none⟩) xPB).trans dPBb; have qPBc := (hbb.cell (p := ⟨PB, 2, none⟩) xPB).trans dPBc; have qPBd := (hbb.cell (p := ⟨PB, 3, none⟩) xPB).trans dPBd; skip))
  rename_i hHeld
  clear hHeld
  have kbb : Below w9a.heap.size w9a w9 := ⟨hbb.os, hbb.tape, hbb.output, hbb.size, hbb.block⟩
  have k9 : Below w8.heap.size w8 w9 := kba.trans (kbb.mono kba.size)
  have HN := Lib.hid hvb
  clear hba hbb kba kbb HO HG hva hvb dGBa dGBb dGBc dGBd dPBa dPBb dPBc dPBd qGBa qGBb qGBc qGBd qPBa qPBb qPBc qPBd yGB yPB xGB xPB
  have s9 := k9.size
  have B9 := B8.trans (k9.mono B8.size)
  have HL9 := Lib.hid (HL8.out.below k9)
  have XGB9a := (k9.cell (p := ⟨GB, 0, none⟩) (by show GB < _; omega)).trans XGB8a
  have XGB9b := (k9.cell (p := ⟨GB, 1, none⟩) (by show GB < _; omega)).trans XGB8b
  have XGB9c := (k9.cell (p := ⟨GB, 2, none⟩) (by show GB < _; omega)).trans XGB8c
  have XGB9d := (k9.cell (p := ⟨GB, 3, none⟩) (by show GB < _; omega)).trans XGB8d
  have XPB9a := (k9.cell (p := ⟨PB, 0, none⟩) (by show PB < _; omega)).trans XPB8a
  have XPB9b := (k9.cell (p := ⟨PB, 1, none⟩) (by show PB < _; omega)).trans XPB8b
  have XPB9c := (k9.cell (p := ⟨PB, 2, none⟩) (by show PB < _; omega)).trans XPB8c
  have XPB9d := (k9.cell (p := ⟨PB, 3, none⟩) (by show PB < _; omega)).trans XPB8d
  have HC9 := Lib.hid (HC8.out.below k9)
  clear k9 HL8 XGB8a XGB8b XGB8c XGB8d XPB8a XPB8b XPB8c XPB8d HC8 B8
  have HD9 := HN
  clear HN
  go_upto_region 7 with fail
  have HO := Lib.hid gn_one21
  have yGB : GB < w9.heap.size := by omega
  have yPB : PB < w9.heap.size := by omega
  go_region_held3 (fun W' => W'.cell? ⟨GB, 0, none⟩ = some (.int .i64 4) ∧ W'.cell? ⟨GB, 1, none⟩ = some (.int .i64 3) ∧ W'.cell? ⟨GB, 2, none⟩ = some (.int .i64 10) ∧ W'.cell? ⟨GB, 3, none⟩ = some (.slice A 1 c) ∧ W'.cell? ⟨PB, 0, none⟩ = some (.int .i64 1) ∧ W'.cell? ⟨PB, 1, none⟩ = some (.int .i64 0) ∧ W'.cell? ⟨PB, 2, none⟩ = some (.int .i64 1) ∧ W'.cell? ⟨PB, 3, none⟩ = some (.int .i64 0))
    (first | exact ⟨XGB9a, XGB9b, XGB9c, XGB9d, XPB9a, XPB9b, XPB9c, XPB9d⟩ | exact ⟨dGBa, dGBb, dGBc, dGBd, dPBa, dPBb, dPBc, dPBd⟩ | exact ⟨qGBa, qGBb, qGBc, qGBd, qPBa, qPBb, qPBc, qPBd⟩)
    (first | (go_at_call 17; (with_reducible refine (HO.out _).mono ?_); rintro e w10a ⟨⟨va, rfl, hva⟩, hba⟩; have dGBa := (hba.cell (p := ⟨GB, 0, none⟩) yGB).trans XGB9a; have dGBb := (hba.cell (p := ⟨GB, 1, none⟩) yGB).trans XGB9b; have dGBc := (hba.cell (p := ⟨GB, 2, none⟩) yGB).trans XGB9c; have dGBd := (hba.cell (p := ⟨GB, 3, none⟩) yGB).trans XGB9d; have dPBa := (hba.cell (p := ⟨PB, 0, none⟩) yPB).trans XPB9a; have dPBb := (hba.cell (p := ⟨PB, 1, none⟩) yPB).trans XPB9b; have dPBc := (hba.cell (p := ⟨PB, 2, none⟩) yPB).trans XPB9c; have dPBd := (hba.cell (p := ⟨PB, 3, none⟩) yPB).trans XPB9d; have kba : Below w9.heap.size w9 w10a := ⟨hba.os, hba.tape, hba.output, hba.size, hba.block⟩; have HG := Lib.hid (backN (.slice A 1 c) va w10a (HL9.out.below kba) hva); have xGB := Nat.lt_of_lt_of_le yGB kba.size; have xPB := Nat.lt_of_lt_of_le yPB kba.size; skip) | (go_at_call 16; (with_reducible refine HG.out.mono ?_); rintro e w10 ⟨⟨vE, rfl, hvb⟩, hbb⟩; have qGBa := (hbb.cell (p := ⟨GB, 0, none⟩) xGB).trans dGBa; have qGBb := (hbb.cell (p := ⟨GB, 1, none⟩) xGB).trans dGBb; have qGBc := (hbb.cell (p := ⟨GB, 2, none⟩) xGB).trans dGBc; have qGBd := (hbb.cell (p := ⟨GB, 3, none⟩) xGB).trans dGBd; have qPBa := (hbb.cell (p := ⟨PB, 0, none⟩) xPB).trans dPBa; have qPBb := (hbb.cell (p := ⟨PB, 1, none⟩) xPB).trans dPBb; have qPBc := (hbb.cell (p := ⟨PB, 2, none⟩) xPB).trans dPBc; have qPBd := (hbb.cell (p := ⟨PB, 3, none⟩) xPB).trans dPBd; skip))
  rename_i hHeld
  clear hHeld
  have kbb : Below w10a.heap.size w10a w10 := ⟨hbb.os, hbb.tape, hbb.output, hbb.size, hbb.block⟩
  have k10 : Below w9.heap.size w9 w10 := kba.trans (kbb.mono kba.size)
  have HN := Lib.hid hvb
  clear hba hbb kba kbb HO HG hva hvb dGBa dGBb dGBc dGBd dPBa dPBb dPBc dPBd qGBa qGBb qGBc qGBd qPBa qPBb qPBc qPBd yGB yPB xGB xPB
  have s10 := k10.size
  have B10 := B9.trans (k10.mono B9.size)
  have HL10 := Lib.hid (HL9.out.below k10)
  have XGB10a := (k10.cell (p := ⟨GB, 0, none⟩) (by show GB < _; omega)).trans XGB9a
  have XGB10b := (k10.cell (p := ⟨GB, 1, none⟩) (by show GB < _; omega)).trans XGB9b
  have XGB10c := (k10.cell (p := ⟨GB, 2, none⟩) (by show GB < _; omega)).trans XGB9c
  have XGB10d := (k10.cell (p := ⟨GB, 3, none⟩) (by show GB < _; omega)).trans XGB9d
  have XPB10a := (k10.cell (p := ⟨PB, 0, none⟩) (by show PB < _; omega)).trans XPB9a
  have XPB10b := (k10.cell (p := ⟨PB, 1, none⟩) (by show PB < _; omega)).trans XPB9b
  have XPB10c := (k10.cell (p := ⟨PB, 2, none⟩) (by show PB < _; omega)).trans XPB9c
  have XPB10d := (k10.cell (p := ⟨PB, 3, none⟩) (by show PB < _; omega)).trans XPB9d
  have HC10 := Lib.hid (HC9.out.below k10)
  have HD10 := Lib.hid (HD9.out.below k10)
  clear k10 HL9 XGB9a XGB9b XGB9c XGB9d XPB9a XPB9b XPB9c XPB9d HC9 HD9 B9
  have HE10 := HN
  clear HN
  clear XPB10a XPB10b XPB10c XPB10d
  go_wp2_with fail
  refine (discN4 _ _ HL10.out).mono ?_
  rintro e w11 ⟨⟨vF, rfl, hvF⟩, hb11⟩
  have k11 : Below w10.heap.size w10 w11 := hb11
  clear hb11
  have s11 := k11.size
  have B11 := B10.trans (k11.mono B10.size)
  have HL11 := Lib.hid (HL10.out.below k11)
  have XGB11a := (k11.cell (p := ⟨GB, 0, none⟩) (by show GB < _; omega)).trans XGB10a
  have XGB11b := (k11.cell (p := ⟨GB, 1, none⟩) (by show GB < _; omega)).trans XGB10b
  have XGB11c := (k11.cell (p := ⟨GB, 2, none⟩) (by show GB < _; omega)).trans XGB10c
  have XGB11d := (k11.cell (p := ⟨GB, 3, none⟩) (by show GB < _; omega)).trans XGB10d
  have HC11 := Lib.hid (HC10.out.below k11)
  have HD11 := Lib.hid (HD10.out.below k11)
  have HE11 := Lib.hid (HE10.out.below k11)
  clear k11 HL10 XGB10a XGB10b XGB10c XGB10d HC10 HD10 HE10 B10
  have HF11 := Lib.hid (show Runs w11 vF [(0, 0, 1)] from hvF)
  clear hvF
  go_wp2_with fail
  refine (discN5 _ _ HL11.out).mono ?_
  rintro e w12 ⟨⟨vG, rfl, hvG⟩, hb12⟩
  have k12 : Below w11.heap.size w11 w12 := hb12
  clear hb12
  have s12 := k12.size
  have B12 := B11.trans (k12.mono B11.size)
  have HL12 := Lib.hid (HL11.out.below k12)
  have XGB12a := (k12.cell (p := ⟨GB, 0, none⟩) (by show GB < _; omega)).trans XGB11a
  have XGB12b := (k12.cell (p := ⟨GB, 1, none⟩) (by show GB < _; omega)).trans XGB11b
  have XGB12c := (k12.cell (p := ⟨GB, 2, none⟩) (by show GB < _; omega)).trans XGB11c
  have XGB12d := (k12.cell (p := ⟨GB, 3, none⟩) (by show GB < _; omega)).trans XGB11d
  have HC12 := Lib.hid (HC11.out.below k12)
  have HD12 := Lib.hid (HD11.out.below k12)
  have HE12 := Lib.hid (HE11.out.below k12)
  have HF12 := Lib.hid (HF11.out.below k12)
  clear k12 HL11 XGB11a XGB11b XGB11c XGB11d HC11 HD11 HE11 HF11 B11
  have HG12 := Lib.hid (show Runs w12 vG [(0, 0, 2), (1, 0, 1)] from hvG)
  clear hvG
  go_wp2_with fail
  refine (halfN _ _ HL12.out).mono ?_
  rintro e w13 ⟨⟨vI, rfl, hvI⟩, hb13⟩
  have k13 : Below w12.heap.size w12 w13 := hb13
  clear hb13
  have s13 := k13.size
  have B13 := B12.trans (k13.mono B12.size)
  have HL13 := Lib.hid (HL12.out.below k13)
  have XGB13a := (k13.cell (p := ⟨GB, 0, none⟩) (by show GB < _; omega)).trans XGB12a
  have XGB13b := (k13.cell (p := ⟨GB, 1, none⟩) (by show GB < _; omega)).trans XGB12b
  have XGB13c := (k13.cell (p := ⟨GB, 2, none⟩) (by show GB < _; omega)).trans XGB12c
  have XGB13d := (k13.cell (p := ⟨GB, 3, none⟩) (by show GB < _; omega)).trans XGB12d
  have HC13 := Lib.hid (HC12.out.below k13)
  have HD13 := Lib.hid (HD12.out.below k13)
  have HE13 := Lib.hid (HE12.out.below k13)
  have HF13 := Lib.hid (HF12.out.below k13)
  have HG13 := Lib.hid (HG12.out.below k13)
  clear k13 HL12 XGB12a XGB12b XGB12c XGB12d HC12 HD12 HE12 HF12 HG12 B12
  have HI13 := Lib.hid (show Runs w13 vI [(1, 0, 4), (2, 0, 4)] from hvI)
  clear hvI
  go_wp2_with fail
  refine (partsN _ _ _ (HL13.out.alloc _) (Lst_lit encR_len _ _ 3 (by simp) _ [(1, 0, 1), (1, 2, 3), (2, 2, 3)] _ (by rfl) (by rfl) (by unfold maxLen; omega))).mono ?_
  rintro e w14 ⟨vJ, u1, u2, rfl, hvJ, hu1, hb14⟩
  have k14 : Below w13.heap.size w13 w14 := ((Below.refl w13.heap.size w13).alloc (Nat.le_refl _) _).trans (hb14.mono (by simp))
  clear hb14
  have s14 := k14.size
  have B14 := B13.trans (k14.mono B13.size)
  have HL14 := Lib.hid (HL13.out.below k14)
  have XGB14a := (k14.cell (p := ⟨GB, 0, none⟩) (by show GB < _; omega)).trans XGB13a
  have XGB14b := (k14.cell (p := ⟨GB, 1, none⟩) (by show GB < _; omega)).trans XGB13b
  have XGB14c := (k14.cell (p := ⟨GB, 2, none⟩) (by show GB < _; omega)).trans XGB13c
  have XGB14d := (k14.cell (p := ⟨GB, 3, none⟩) (by show GB < _; omega)).trans XGB13d
  have HC14 := Lib.hid (HC13.out.below k14)
  have HD14 := Lib.hid (HD13.out.below k14)
  have HE14 := Lib.hid (HE13.out.below k14)
  have HF14 := Lib.hid (HF13.out.below k14)
  have HG14 := Lib.hid (HG13.out.below k14)
  have HI14 := Lib.hid (HI13.out.below k14)
  clear k14 HL13 XGB13a XGB13b XGB13c XGB13d HC13 HD13 HE13 HF13 HG13 HI13 B13
  obtain ⟨Aj, cj, rfl, -⟩ := (show Lst 1 enc1 w14 vJ [u1, u2] from hvJ)
  have HJ14 := Lib.hid (show Lst 1 enc1 w14 (.slice Aj 2 cj) [u1, u2] from hvJ)
  have HU14 := Lib.hid (show Runs w14 u1 [(1, 0, 1)] from hu1)
  clear hvJ hu1
  go_wp2_with fail
  refine (shoreN _ _ HL14.out).mono ?_
  rintro e w15 ⟨⟨vK, rfl, hvK⟩, hb15⟩
  have k15 : Below w14.heap.size w14 w15 := hb15
  clear hb15
  have s15 := k15.size
  have B15 := B14.trans (k15.mono B14.size)
  have HL15 := Lib.hid (HL14.out.below k15)
  have XGB15a := (k15.cell (p := ⟨GB, 0, none⟩) (by show GB < _; omega)).trans XGB14a
  have XGB15b := (k15.cell (p := ⟨GB, 1, none⟩) (by show GB < _; omega)).trans XGB14b
  have XGB15c := (k15.cell (p := ⟨GB, 2, none⟩) (by show GB < _; omega)).trans XGB14c
  have XGB15d := (k15.cell (p := ⟨GB, 3, none⟩) (by show GB < _; omega)).trans XGB14d
  have HC15 := Lib.hid (HC14.out.below k15)
  have HD15 := Lib.hid (HD14.out.below k15)
  have HE15 := Lib.hid (HE14.out.below k15)
  have HF15 := Lib.hid (HF14.out.below k15)
  have HG15 := Lib.hid (HG14.out.below k15)
  have HI15 := Lib.hid (HI14.out.below k15)
  have HJ15 := Lib.hid (HJ14.out.below k15)
  have HU15 := Lib.hid (HU14.out.below k15)
  clear k15 HL14 XGB14a XGB14b XGB14c XGB14d HC14 HD14 HE14 HF14 HG14 HI14 HJ14 HU14 B14
  have HK15 := Lib.hid (show Runs w15 vK [(0, 2, 3), (1, 0, 2)] from hvK)
  clear hvK
  go_wp2_with fail
  refine (allN _).mono ?_
  rintro e w16 ⟨rfl, hb16⟩
  have k16 : Below w15.heap.size w15 w16 := hb16
  clear hb16
  have s16 := k16.size
  have B16 := B15.trans (k16.mono B15.size)
  have HL16 := Lib.hid (HL15.out.below k16)
  have XGB16a := (k16.cell (p := ⟨GB, 0, none⟩) (by show GB < _; omega)).trans XGB15a
  have XGB16b := (k16.cell (p := ⟨GB, 1, none⟩) (by show GB < _; omega)).trans XGB15b
  have XGB16c := (k16.cell (p := ⟨GB, 2, none⟩) (by show GB < _; omega)).trans XGB15c
  have XGB16d := (k16.cell (p := ⟨GB, 3, none⟩) (by show GB < _; omega)).trans XGB15d
  have HC16 := Lib.hid (HC15.out.below k16)
  have HD16 := Lib.hid (HD15.out.below k16)
  have HE16 := Lib.hid (HE15.out.below k16)
  have HF16 := Lib.hid (HF15.out.below k16)
  have HG16 := Lib.hid (HG15.out.below k16)
  have HI16 := Lib.hid (HI15.out.below k16)
  have HJ16 := Lib.hid (HJ15.out.below k16)
  have HU16 := Lib.hid (HU15.out.below k16)
  have HK16 := Lib.hid (HK15.out.below k16)
  clear k16 HL15 XGB15a XGB15b XGB15c XGB15d HC15 HD15 HE15 HF15 HG15 HI15 HJ15 HU15 HK15 B15
  go_wp2_with fail
  refine (chkRegN _ _ _ (HL16.out.alloc _) (Lst_lit encR_len _ _ 2 (by simp) _ [(0, 0, 1), (0, 1, 2)] _ (by rfl) (by rfl) (by unfold maxLen; omega))).mono ?_
  rintro e w17 ⟨rfl, hb17⟩
  have k17 : Below w16.heap.size w16 w17 := ((Below.refl w16.heap.size w16).alloc (Nat.le_refl _) _).trans (hb17.mono (by simp))
  clear hb17
  have s17 := k17.size
  have B17 := B16.trans (k17.mono B16.size)
  have HL17 := Lib.hid (HL16.out.below k17)
  have XGB17a := (k17.cell (p := ⟨GB, 0, none⟩) (by show GB < _; omega)).trans XGB16a
  have XGB17b := (k17.cell (p := ⟨GB, 1, none⟩) (by show GB < _; omega)).trans XGB16b
  have XGB17c := (k17.cell (p := ⟨GB, 2, none⟩) (by show GB < _; omega)).trans XGB16c
  have XGB17d := (k17.cell (p := ⟨GB, 3, none⟩) (by show GB < _; omega)).trans XGB16d
  have HC17 := Lib.hid (HC16.out.below k17)
  have HD17 := Lib.hid (HD16.out.below k17)
  have HE17 := Lib.hid (HE16.out.below k17)
  have HF17 := Lib.hid (HF16.out.below k17)
  have HG17 := Lib.hid (HG16.out.below k17)
  have HI17 := Lib.hid (HI16.out.below k17)
  have HJ17 := Lib.hid (HJ16.out.below k17)
  have HU17 := Lib.hid (HU16.out.below k17)
  have HK17 := Lib.hid (HK16.out.below k17)
  clear k17 HL16 XGB16a XGB16b XGB16c XGB16d HC16 HD16 HE16 HF16 HG16 HI16 HJ16 HU16 HK16 B16
  go_wp2_with fail
  refine (hullN _ _ HL17.out).mono ?_
  rintro e w18 ⟨rfl, hb18⟩
  have k18 : Below w17.heap.size w17 w18 := hb18
  clear hb18
  have s18 := k18.size
  have B18 := B17.trans (k18.mono B17.size)
  have HL18 := Lib.hid (HL17.out.below k18)
  have XGB18a := (k18.cell (p := ⟨GB, 0, none⟩) (by show GB < _; omega)).trans XGB17a
  have XGB18b := (k18.cell (p := ⟨GB, 1, none⟩) (by show GB < _; omega)).trans XGB17b
  have XGB18c := (k18.cell (p := ⟨GB, 2, none⟩) (by show GB < _; omega)).trans XGB17c
  have XGB18d := (k18.cell (p := ⟨GB, 3, none⟩) (by show GB < _; omega)).trans XGB17d
  have HC18 := Lib.hid (HC17.out.below k18)
  have HD18 := Lib.hid (HD17.out.below k18)
  have HE18 := Lib.hid (HE17.out.below k18)
  have HF18 := Lib.hid (HF17.out.below k18)
  have HG18 := Lib.hid (HG17.out.below k18)
  have HI18 := Lib.hid (HI17.out.below k18)
  have HJ18 := Lib.hid (HJ17.out.below k18)
  have HU18 := Lib.hid (HU17.out.below k18)
  have HK18 := Lib.hid (HK17.out.below k18)
  clear k18 HL17 XGB17a XGB17b XGB17c XGB17d HC17 HD17 HE17 HF17 HG17 HI17 HJ17 HU17 HK17 B17
  go_upto_region 16 with fail
  obtain ⟨w19, hw19⟩ : ∃ Z, (w18.alloc (.cells #[.int .i64 0, .int .i64 0] 26)).alloc (.cells #[.int .i64 0, .int .i64 0] 26) = Z := ⟨_, rfl⟩
  have k19 : Below w18.heap.size w18 w19 := by rw [← hw19]; exact ((Below.refl _ _).alloc (Nat.le_refl _) _).alloc (by simp) _
  rw [hw19]
  clear hw19
  have s19 := k19.size
  have B19 := B18.trans (k19.mono B18.size)
  have HL19 := Lib.hid (HL18.out.below k19)
  have XGB19a := (k19.cell (p := ⟨GB, 0, none⟩) (by show GB < _; omega)).trans XGB18a
  have XGB19b := (k19.cell (p := ⟨GB, 1, none⟩) (by show GB < _; omega)).trans XGB18b
  have XGB19c := (k19.cell (p := ⟨GB, 2, none⟩) (by show GB < _; omega)).trans XGB18c
  have XGB19d := (k19.cell (p := ⟨GB, 3, none⟩) (by show GB < _; omega)).trans XGB18d
  have HC19 := Lib.hid (HC18.out.below k19)
  have HD19 := Lib.hid (HD18.out.below k19)
  have HE19 := Lib.hid (HE18.out.below k19)
  have HF19 := Lib.hid (HF18.out.below k19)
  have HG19 := Lib.hid (HG18.out.below k19)
  have HI19 := Lib.hid (HI18.out.below k19)
  have HJ19 := Lib.hid (HJ18.out.below k19)
  have HU19 := Lib.hid (HU18.out.below k19)
  have HK19 := Lib.hid (HK18.out.below k19)
  clear k19 HL18 XGB18a XGB18b XGB18c XGB18d HC18 HD18 HE18 HF18 HG18 HI18 HJ18 HU18 HK18 B18
  go_wp2_with fail
  refine (gn_one11 _).mono ?_
  rintro e w20 ⟨⟨vO, rfl, hvO⟩, hb20⟩
  have k20 : Below w19.heap.size w19 w20 := hb20
  clear hb20
  have s20 := k20.size
  have B20 := B19.trans (k20.mono B19.size)
  have HL20 := Lib.hid (HL19.out.below k20)
  have XGB20a := (k20.cell (p := ⟨GB, 0, none⟩) (by show GB < _; omega)).trans XGB19a
  have XGB20b := (k20.cell (p := ⟨GB, 1, none⟩) (by show GB < _; omega)).trans XGB19b
  have XGB20c := (k20.cell (p := ⟨GB, 2, none⟩) (by show GB < _; omega)).trans XGB19c
  have XGB20d := (k20.cell (p := ⟨GB, 3, none⟩) (by show GB < _; omega)).trans XGB19d
  have HC20 := Lib.hid (HC19.out.below k20)
  have HD20 := Lib.hid (HD19.out.below k20)
  have HE20 := Lib.hid (HE19.out.below k20)
  have HF20 := Lib.hid (HF19.out.below k20)
  have HG20 := Lib.hid (HG19.out.below k20)
  have HI20 := Lib.hid (HI19.out.below k20)
  have HJ20 := Lib.hid (HJ19.out.below k20)
  have HU20 := Lib.hid (HU19.out.below k20)
  have HK20 := Lib.hid (HK19.out.below k20)
  clear k20 HL19 XGB19a XGB19b XGB19c XGB19d HC19 HD19 HE19 HF19 HG19 HI19 HJ19 HU19 HK19 B19
  have HO20 := Lib.hid (show Runs w20 vO [(1, 1, 2)] from hvO)
  clear hvO
  go_wp2_with fail
  refine (same_gr _ _ [(1, 1, 2)] _ HC20.out HO20.out).mono ?_
  rintro e w21 ⟨rfl, hb21⟩
  have k21 : Below w20.heap.size w20 w21 := hb21
  clear hb21
  have s21 := k21.size
  have B21 := B20.trans (k21.mono B20.size)
  have HL21 := Lib.hid (HL20.out.below k21)
  have XGB21a := (k21.cell (p := ⟨GB, 0, none⟩) (by show GB < _; omega)).trans XGB20a
  have XGB21b := (k21.cell (p := ⟨GB, 1, none⟩) (by show GB < _; omega)).trans XGB20b
  have XGB21c := (k21.cell (p := ⟨GB, 2, none⟩) (by show GB < _; omega)).trans XGB20c
  have XGB21d := (k21.cell (p := ⟨GB, 3, none⟩) (by show GB < _; omega)).trans XGB20d
  have HC21 := Lib.hid (HC20.out.below k21)
  have HD21 := Lib.hid (HD20.out.below k21)
  have HE21 := Lib.hid (HE20.out.below k21)
  have HF21 := Lib.hid (HF20.out.below k21)
  have HG21 := Lib.hid (HG20.out.below k21)
  have HI21 := Lib.hid (HI20.out.below k21)
  have HJ21 := Lib.hid (HJ20.out.below k21)
  have HU21 := Lib.hid (HU20.out.below k21)
  have HK21 := Lib.hid (HK20.out.below k21)
  have HO21 := Lib.hid (HO20.out.below k21)
  clear k21 HL20 XGB20a XGB20b XGB20c XGB20d HC20 HD20 HE20 HF20 HG20 HI20 HJ20 HU20 HK20 HO20 B20
  clear HO21
  clear HC21
  go_wp2_with fail
  refine (same_gr _ _ [(1, 1, 3)] _ (HD21.out.alloc _) (Lst_lit encR_len _ _ 1 (by simp) _ [(1, 1, 3)] _ (by rfl) (by rfl) (by unfold maxLen; omega))).mono ?_
  rintro e w22 ⟨rfl, hb22⟩
  have k22 : Below w21.heap.size w21 w22 := ((Below.refl w21.heap.size w21).alloc (Nat.le_refl _) _).trans (hb22.mono (by simp))
  clear hb22
  have s22 := k22.size
  have B22 := B21.trans (k22.mono B21.size)
  have HL22 := Lib.hid (HL21.out.below k22)
  have XGB22a := (k22.cell (p := ⟨GB, 0, none⟩) (by show GB < _; omega)).trans XGB21a
  have XGB22b := (k22.cell (p := ⟨GB, 1, none⟩) (by show GB < _; omega)).trans XGB21b
  have XGB22c := (k22.cell (p := ⟨GB, 2, none⟩) (by show GB < _; omega)).trans XGB21c
  have XGB22d := (k22.cell (p := ⟨GB, 3, none⟩) (by show GB < _; omega)).trans XGB21d
  have HD22 := Lib.hid (HD21.out.below k22)
  have HE22 := Lib.hid (HE21.out.below k22)
  have HF22 := Lib.hid (HF21.out.below k22)
  have HG22 := Lib.hid (HG21.out.below k22)
  have HI22 := Lib.hid (HI21.out.below k22)
  have HJ22 := Lib.hid (HJ21.out.below k22)
  have HU22 := Lib.hid (HU21.out.below k22)
  have HK22 := Lib.hid (HK21.out.below k22)
  clear k22 HL21 XGB21a XGB21b XGB21c XGB21d HD21 HE21 HF21 HG21 HI21 HJ21 HU21 HK21 B21
  clear HD22
  go_wp2_with fail
  refine (same_gr _ _ [(1, 1, 3)] _ (HE22.out.alloc _) (Lst_lit encR_len _ _ 1 (by simp) _ [(1, 1, 3)] _ (by rfl) (by rfl) (by unfold maxLen; omega))).mono ?_
  rintro e w23 ⟨rfl, hb23⟩
  have k23 : Below w22.heap.size w22 w23 := ((Below.refl w22.heap.size w22).alloc (Nat.le_refl _) _).trans (hb23.mono (by simp))
  clear hb23
  have s23 := k23.size
  have B23 := B22.trans (k23.mono B22.size)
  have HL23 := Lib.hid (HL22.out.below k23)
  have XGB23a := (k23.cell (p := ⟨GB, 0, none⟩) (by show GB < _; omega)).trans XGB22a
  have XGB23b := (k23.cell (p := ⟨GB, 1, none⟩) (by show GB < _; omega)).trans XGB22b
  have XGB23c := (k23.cell (p := ⟨GB, 2, none⟩) (by show GB < _; omega)).trans XGB22c
  have XGB23d := (k23.cell (p := ⟨GB, 3, none⟩) (by show GB < _; omega)).trans XGB22d
  have HE23 := Lib.hid (HE22.out.below k23)
  have HF23 := Lib.hid (HF22.out.below k23)
  have HG23 := Lib.hid (HG22.out.below k23)
  have HI23 := Lib.hid (HI22.out.below k23)
  have HJ23 := Lib.hid (HJ22.out.below k23)
  have HU23 := Lib.hid (HU22.out.below k23)
  have HK23 := Lib.hid (HK22.out.below k23)
  clear k23 HL22 XGB22a XGB22b XGB22c XGB22d HE22 HF22 HG22 HI22 HJ22 HU22 HK22 B22
  clear HE23
  go_wp2_with fail
  refine (gn_one00 _).mono ?_
  rintro e w24 ⟨⟨vP, rfl, hvP⟩, hb24⟩
  have k24 : Below w23.heap.size w23 w24 := hb24
  clear hb24
  have s24 := k24.size
  have B24 := B23.trans (k24.mono B23.size)
  have HL24 := Lib.hid (HL23.out.below k24)
  have XGB24a := (k24.cell (p := ⟨GB, 0, none⟩) (by show GB < _; omega)).trans XGB23a
  have XGB24b := (k24.cell (p := ⟨GB, 1, none⟩) (by show GB < _; omega)).trans XGB23b
  have XGB24c := (k24.cell (p := ⟨GB, 2, none⟩) (by show GB < _; omega)).trans XGB23c
  have XGB24d := (k24.cell (p := ⟨GB, 3, none⟩) (by show GB < _; omega)).trans XGB23d
  have HF24 := Lib.hid (HF23.out.below k24)
  have HG24 := Lib.hid (HG23.out.below k24)
  have HI24 := Lib.hid (HI23.out.below k24)
  have HJ24 := Lib.hid (HJ23.out.below k24)
  have HU24 := Lib.hid (HU23.out.below k24)
  have HK24 := Lib.hid (HK23.out.below k24)
  clear k24 HL23 XGB23a XGB23b XGB23c XGB23d HF23 HG23 HI23 HJ23 HU23 HK23 B23
  have HP24 := Lib.hid (show Runs w24 vP [(0, 0, 1)] from hvP)
  clear hvP
  go_wp2_with fail
  refine (same_gr _ _ [(0, 0, 1)] _ HF24.out HP24.out).mono ?_
  rintro e w25 ⟨rfl, hb25⟩
  have k25 : Below w24.heap.size w24 w25 := hb25
  clear hb25
  have s25 := k25.size
  have B25 := B24.trans (k25.mono B24.size)
  have HL25 := Lib.hid (HL24.out.below k25)
  have XGB25a := (k25.cell (p := ⟨GB, 0, none⟩) (by show GB < _; omega)).trans XGB24a
  have XGB25b := (k25.cell (p := ⟨GB, 1, none⟩) (by show GB < _; omega)).trans XGB24b
  have XGB25c := (k25.cell (p := ⟨GB, 2, none⟩) (by show GB < _; omega)).trans XGB24c
  have XGB25d := (k25.cell (p := ⟨GB, 3, none⟩) (by show GB < _; omega)).trans XGB24d
  have HF25 := Lib.hid (HF24.out.below k25)
  have HG25 := Lib.hid (HG24.out.below k25)
  have HI25 := Lib.hid (HI24.out.below k25)
  have HJ25 := Lib.hid (HJ24.out.below k25)
  have HU25 := Lib.hid (HU24.out.below k25)
  have HK25 := Lib.hid (HK24.out.below k25)
  have HP25 := Lib.hid (HP24.out.below k25)
  clear k25 HL24 XGB24a XGB24b XGB24c XGB24d HF24 HG24 HI24 HJ24 HU24 HK24 HP24 B24
  clear HP25
  clear HF25
  go_wp2_with fail
  refine (same_gr _ _ [(0, 0, 2), (1, 0, 1)] _ (HG25.out.alloc _) (Lst_lit encR_len _ _ 2 (by simp) _ [(0, 0, 2), (1, 0, 1)] _ (by rfl) (by rfl) (by unfold maxLen; omega))).mono ?_
  rintro e w26 ⟨rfl, hb26⟩
  have k26 : Below w25.heap.size w25 w26 := ((Below.refl w25.heap.size w25).alloc (Nat.le_refl _) _).trans (hb26.mono (by simp))
  clear hb26
  have s26 := k26.size
  have B26 := B25.trans (k26.mono B25.size)
  have HL26 := Lib.hid (HL25.out.below k26)
  have XGB26a := (k26.cell (p := ⟨GB, 0, none⟩) (by show GB < _; omega)).trans XGB25a
  have XGB26b := (k26.cell (p := ⟨GB, 1, none⟩) (by show GB < _; omega)).trans XGB25b
  have XGB26c := (k26.cell (p := ⟨GB, 2, none⟩) (by show GB < _; omega)).trans XGB25c
  have XGB26d := (k26.cell (p := ⟨GB, 3, none⟩) (by show GB < _; omega)).trans XGB25d
  have HG26 := Lib.hid (HG25.out.below k26)
  have HI26 := Lib.hid (HI25.out.below k26)
  have HJ26 := Lib.hid (HJ25.out.below k26)
  have HU26 := Lib.hid (HU25.out.below k26)
  have HK26 := Lib.hid (HK25.out.below k26)
  clear k26 HL25 XGB25a XGB25b XGB25c XGB25d HG25 HI25 HJ25 HU25 HK25 B25
  clear HG26
  go_upto_region 18 with fail
  obtain ⟨A2, c2, e2, -, -, hJ2⟩ := HJ26.out
  obtain ⟨rfl, -, rfl⟩ : A2 = Aj ∧ True ∧ c2 = cj := by simpa using e2.symm
  obtain ⟨bj, oj, rfl, yj, hJ3⟩ := hJ2 (by simp)
  have g0 : w26.cell? ⟨bj, oj, none⟩ = some u1 := by simpa using hJ3 0 0 u1 u1 rfl rfl
  clear hJ2 hJ3 e2
  clear HJ26
  have HS1 := Lib.hid (same_gr vI (.slice (some ⟨w26.heap.size, 0, none⟩) 2 2) [(1, 0, 4), (2, 0, 4)] ((w26.alloc (.cells #[.int .i64 1, .int .i64 0, .int .i64 4, .int .i64 2, .int .i64 0, .int .i64 4] 72)).drew) (show Runs (w26.alloc _) vI _ from HI26.out.alloc _) (show Runs (w26.alloc _) _ _ from Lst_lit encR_len w26 w26.heap.size 2 rfl #[.int .i64 1, .int .i64 0, .int .i64 4, .int .i64 2, .int .i64 0, .int .i64 4] [(1, 0, 4), (2, 0, 4)] 72 rfl rfl (by unfold maxLen; omega)))
  have HO := Lib.hid gn_one01
  go_region_held3 (fun W' => W'.cell? ⟨bj, oj, none⟩ = some u1)
    (first | exact g0 | exact (show (w26.alloc _).cell? _ = _ from (((Below.refl _ _).alloc (Nat.le_refl _) _).cell (p := ⟨bj, oj, none⟩) yj).trans g0) | exact g1 | exact g2 | exact g3 | exact (((Below.refl _ _).alloc (Nat.le_refl _) _).cell (p := ⟨bj, oj, none⟩) yj3).trans g3 | exact g4)
    (first | (go_at_call 33; (with_reducible refine HS1.out.mono ?_); rintro e wa ⟨rfl, hba⟩; have kba : Below w26.heap.size w26 wa := ((Below.refl _ _).alloc (Nat.le_refl _) _).trans (Below.mono ⟨hba.os, hba.tape, hba.output, hba.size, hba.block⟩ (by simp)); have g1 := (kba.cell (p := ⟨bj, oj, none⟩) yj).trans g0; have yj1 := Nat.lt_of_lt_of_le yj kba.size; have HU1 := Lib.hid (HU26.out.below kba); have HK1 := Lib.hid (HK26.out.below kba); skip) | (go_at_call 17; (with_reducible refine (HO.out _).mono ?_); rintro e wb ⟨⟨vQ, rfl, hvQ⟩, hbb⟩; have kbb : Below wa.heap.size wa wb := ⟨hbb.os, hbb.tape, hbb.output, hbb.size, hbb.block⟩; have g2 := (kbb.cell (p := ⟨bj, oj, none⟩) yj1).trans g1; have yj2 := Nat.lt_of_lt_of_le yj1 kbb.size; have HS2 := Lib.hid (same_gr u1 vQ [(1, 0, 1)] wb (HU1.out.below kbb) hvQ); have HK2 := Lib.hid (HK1.out.below kbb); skip) | (go_at_call 33; (with_reducible refine HS2.out.mono ?_); rintro e wc ⟨rfl, hbc⟩; have kbc : Below wb.heap.size wb wc := ⟨hbc.os, hbc.tape, hbc.output, hbc.size, hbc.block⟩; have g3 := (kbc.cell (p := ⟨bj, oj, none⟩) yj2).trans g2; have yj3 := Nat.lt_of_lt_of_le yj2 kbc.size; have HS3 := Lib.hid (same_gr vK (.slice (some ⟨wc.heap.size, 0, none⟩) 2 2) [(0, 2, 3), (1, 0, 2)] (wc.alloc (.cells #[.int .i64 0, .int .i64 2, .int .i64 3, .int .i64 1, .int .i64 0, .int .i64 2] 72)) ((HK2.out.below kbc).alloc _) (Lst_lit encR_len wc wc.heap.size 2 rfl #[.int .i64 0, .int .i64 2, .int .i64 3, .int .i64 1, .int .i64 0, .int .i64 2] [(0, 2, 3), (1, 0, 2)] 72 rfl rfl (by unfold maxLen; omega))); skip) | (go_at_call 33; (with_reducible refine HS3.out.mono ?_); rintro e wd ⟨rfl, hbd⟩; have kbd : Below wc.heap.size wc wd := ((Below.refl _ _).alloc (Nat.le_refl _) _).trans (Below.mono ⟨hbd.os, hbd.tape, hbd.output, hbd.size, hbd.block⟩ (by simp)); have g4 := (kbd.cell (p := ⟨bj, oj, none⟩) yj3).trans g3; skip))
  rename_i hHeld
  clear hHeld
  have k27 : Below w26.heap.size w26 wd := ((kba.trans (kbb.mono kba.size)).trans (kbc.mono (by have := kba.size; have := kbb.size; omega))).trans (kbd.mono (by have := kba.size; have := kbb.size; have := kbc.size; omega))
  clear hba hbb hbc hbd kba kbb kbc kbd HS1 HS2 HS3 HO HU1 HK1 HK2 hvQ g0 g1 g2 g3 g4
  clear HU26
  clear HK26
  clear HI26
  have s27 := k27.size
  have B27 := B26.trans (k27.mono B26.size)
  have HL27 := Lib.hid (HL26.out.below k27)
  have XGB27a := (k27.cell (p := ⟨GB, 0, none⟩) (by show GB < _; omega)).trans XGB26a
  have XGB27b := (k27.cell (p := ⟨GB, 1, none⟩) (by show GB < _; omega)).trans XGB26b
  have XGB27c := (k27.cell (p := ⟨GB, 2, none⟩) (by show GB < _; omega)).trans XGB26c
  have XGB27d := (k27.cell (p := ⟨GB, 3, none⟩) (by show GB < _; omega)).trans XGB26d
  clear k27 HL26 XGB26a XGB26b XGB26c XGB26d B26
  go_wp2_with fail
  refine (drawN _ _ _ (HL27.out.alloc _) (Lst_lit encR_len _ _ 1 (by simp) _ [(0, 1, 3)] _ (by rfl) (by rfl) (by unfold maxLen; omega))).mono ?_
  rintro e w28 ⟨rfl, hb28⟩
  have k28 : Below wd.heap.size wd w28 := ((Below.refl wd.heap.size wd).alloc (Nat.le_refl _) _).trans (hb28.mono (by simp))
  clear hb28
  have s28 := k28.size
  have B28 := B27.trans (k28.mono B27.size)
  have HL28 := Lib.hid (HL27.out.below k28)
  have XGB28a := (k28.cell (p := ⟨GB, 0, none⟩) (by show GB < _; omega)).trans XGB27a
  have XGB28b := (k28.cell (p := ⟨GB, 1, none⟩) (by show GB < _; omega)).trans XGB27b
  have XGB28c := (k28.cell (p := ⟨GB, 2, none⟩) (by show GB < _; omega)).trans XGB27c
  have XGB28d := (k28.cell (p := ⟨GB, 3, none⟩) (by show GB < _; omega)).trans XGB27d
  clear k28 HL27 XGB27a XGB27b XGB27c XGB27d B27
  go_wp2_with fail
  refine (alive_gr _).mono ?_
  rintro e w29 ⟨rfl, hb29⟩
  have k29 : Below w28.heap.size w28 w29 := hb29
  clear hb29
  have s29 := k29.size
  have B29 := B28.trans (k29.mono B28.size)
  have HL29 := Lib.hid (HL28.out.below k29)
  have XGB29a := (k29.cell (p := ⟨GB, 0, none⟩) (by show GB < _; omega)).trans XGB28a
  have XGB29b := (k29.cell (p := ⟨GB, 1, none⟩) (by show GB < _; omega)).trans XGB28b
  have XGB29c := (k29.cell (p := ⟨GB, 2, none⟩) (by show GB < _; omega)).trans XGB28c
  have XGB29d := (k29.cell (p := ⟨GB, 3, none⟩) (by show GB < _; omega)).trans XGB28d
  clear k29 HL28 XGB28a XGB28b XGB28c XGB28d B28
  go_wp2_with fail
  go_ret
  exact ⟨rfl, B29⟩
end Go.Proofs.Ytnbdnnbeiohmgaa
