/- drift: push with no flows; Push. -/
import Derived.Test.YtnbdnnbeiohmgaaDnPush
namespace Go.Proofs.Ytnbdnnbeiohmgaa
open Go.RowKit Go.Shelf Go.Lib
attribute [local go_sem] Oper.semAt_some

set_option maxRecDepth 100000 in
set_option maxHeartbeats 16000000 in
theorem push_nil (side x y t sec : Int) (L : Option Addr) (lc : Nat) (w : World) :
    Calls Try.prog 97 #[.agg #[.int .i64 5, .int .i64 5, .int .i64 100, .slice L 5 lc, .slice none 0 0, .slice none 0 0, .int .i64 20, .int .i64 20, .int .i64 10, .int .i64 20, .bool false], .agg #[.int .i64 x, .int .i64 y], .int .i64 side, .int .i64 t, .int .i64 sec] w fun e w' => e = .returned (.tuple #[.agg #[.int .i64 0, .int .i64 0, .int .i64 0, .int .i64 0], .bool false]) ∧ Below w.heap.size w w' := by
  have BB0 := Lib.hid (Below.refl w.heap.size w)
  go_enter Try.func97, Try.ntmps97
  go_upto_region 1 with fail
  obtain ⟨Z, hZ⟩ : ∃ Z, w.heap.size = Z := ⟨_, rfl⟩
  obtain ⟨w1, hw1⟩ : ∃ Z, (((w.alloc (.cells #[.int .i64 5, .int .i64 5, .int .i64 100, .slice L 5 lc, .slice none 0 0, .slice none 0 0, .int .i64 20, .int .i64 20, .int .i64 10, .int .i64 20, .bool false] 165)).alloc (.cells #[.int .i64 x, .int .i64 y] 39)).alloc (.cells #[.int .i64 0, .int .i64 0, .int .i64 0, .int .i64 0] 28)) = Z := ⟨_, rfl⟩
  have k1 : Below w.heap.size w w1 := by rw [← hw1]; exact ((((Below.refl _ _).alloc (Nat.le_refl _) _).alloc (by simp) _).alloc (by simp; omega) _)
  have z1 : Z + 1 + 1 < w1.heap.size := by rw [← hw1, ← hZ]; simp
  have y1 : w.heap.size = Z := hZ
  have sea_1c0 : w1.cell? ⟨Z, 0, none⟩ = some (.int .i64 5) := by rw [← hw1, ← hZ]; simp [go_sem]
  have sea_1c1 : w1.cell? ⟨Z, 1, none⟩ = some (.int .i64 5) := by rw [← hw1, ← hZ]; simp [go_sem]
  have sea_1c2 : w1.cell? ⟨Z, 2, none⟩ = some (.int .i64 100) := by rw [← hw1, ← hZ]; simp [go_sem]
  have sea_1c3 : w1.cell? ⟨Z, 3, none⟩ = some (.slice L 5 lc) := by rw [← hw1, ← hZ]; simp [go_sem]
  have sea_1c4 : w1.cell? ⟨Z, 4, none⟩ = some (.slice none 0 0) := by rw [← hw1, ← hZ]; simp [go_sem]
  have sea_1c5 : w1.cell? ⟨Z, 5, none⟩ = some (.slice none 0 0) := by rw [← hw1, ← hZ]; simp [go_sem]
  have sea_1c6 : w1.cell? ⟨Z, 6, none⟩ = some (.int .i64 20) := by rw [← hw1, ← hZ]; simp [go_sem]
  have sea_1c7 : w1.cell? ⟨Z, 7, none⟩ = some (.int .i64 20) := by rw [← hw1, ← hZ]; simp [go_sem]
  have sea_1c8 : w1.cell? ⟨Z, 8, none⟩ = some (.int .i64 10) := by rw [← hw1, ← hZ]; simp [go_sem]
  have sea_1c9 : w1.cell? ⟨Z, 9, none⟩ = some (.int .i64 20) := by rw [← hw1, ← hZ]; simp [go_sem]
  have sea_1c10 : w1.cell? ⟨Z, 10, none⟩ = some (.bool false) := by rw [← hw1, ← hZ]; simp [go_sem]
  have cel_1c0 : w1.cell? ⟨Z + 1, 0, none⟩ = some (.int .i64 x) := by rw [← hw1, ← hZ]; simp [go_sem]
  have cel_1c1 : w1.cell? ⟨Z + 1, 1, none⟩ = some (.int .i64 y) := by rw [← hw1, ← hZ]; simp [go_sem]
  have res_1c0 : w1.cell? ⟨Z + 1 + 1, 0, none⟩ = some (.int .i64 0) := by rw [← hw1, ← hZ]; simp [go_sem]
  have res_1c1 : w1.cell? ⟨Z + 1 + 1, 1, none⟩ = some (.int .i64 0) := by rw [← hw1, ← hZ]; simp [go_sem]
  have res_1c2 : w1.cell? ⟨Z + 1 + 1, 2, none⟩ = some (.int .i64 0) := by rw [← hw1, ← hZ]; simp [go_sem]
  have res_1c3 : w1.cell? ⟨Z + 1 + 1, 3, none⟩ = some (.int .i64 0) := by rw [← hw1, ← hZ]; simp [go_sem]
  have res_1f0 : w1.frozen? ⟨Z + 1 + 1, 0, none⟩ = false := by rw [← hw1, ← hZ]; simp [go_sem]
  have res_1f1 : w1.frozen? ⟨Z + 1 + 1, 1, none⟩ = false := by rw [← hw1, ← hZ]; simp [go_sem]
  have res_1f2 : w1.frozen? ⟨Z + 1 + 1, 2, none⟩ = false := by rw [← hw1, ← hZ]; simp [go_sem]
  have res_1f3 : w1.frozen? ⟨Z + 1 + 1, 3, none⟩ = false := by rw [← hw1, ← hZ]; simp [go_sem]
  (try rw [hw1]); (try rw [hZ])
  clear hw1 hZ
  have S1 := k1.size
  have BB1 := Lib.hid (BB0.out.trans (k1.mono BB0.out.size))
  clear k1 BB0
  go_wp2_with fail
  refine (at_nil x y t _).mono ?_
  rintro e w2 ⟨rfl, hb2⟩
  have k2 : Below w1.heap.size w1 w2 := hb2
  clear hb2
  have S2 := k2.size
  have sea_2c0 := (k2.cell (p := ⟨Z, 0, none⟩) (by show Z < _; omega)).trans sea_1c0
  have sea_2c1 := (k2.cell (p := ⟨Z, 1, none⟩) (by show Z < _; omega)).trans sea_1c1
  have sea_2c2 := (k2.cell (p := ⟨Z, 2, none⟩) (by show Z < _; omega)).trans sea_1c2
  have sea_2c3 := (k2.cell (p := ⟨Z, 3, none⟩) (by show Z < _; omega)).trans sea_1c3
  have sea_2c4 := (k2.cell (p := ⟨Z, 4, none⟩) (by show Z < _; omega)).trans sea_1c4
  have sea_2c5 := (k2.cell (p := ⟨Z, 5, none⟩) (by show Z < _; omega)).trans sea_1c5
  have sea_2c6 := (k2.cell (p := ⟨Z, 6, none⟩) (by show Z < _; omega)).trans sea_1c6
  have sea_2c7 := (k2.cell (p := ⟨Z, 7, none⟩) (by show Z < _; omega)).trans sea_1c7
  have sea_2c8 := (k2.cell (p := ⟨Z, 8, none⟩) (by show Z < _; omega)).trans sea_1c8
  have sea_2c9 := (k2.cell (p := ⟨Z, 9, none⟩) (by show Z < _; omega)).trans sea_1c9
  have sea_2c10 := (k2.cell (p := ⟨Z, 10, none⟩) (by show Z < _; omega)).trans sea_1c10
  have cel_2c0 := (k2.cell (p := ⟨Z + 1, 0, none⟩) (by show Z + 1 < _; omega)).trans cel_1c0
  have cel_2c1 := (k2.cell (p := ⟨Z + 1, 1, none⟩) (by show Z + 1 < _; omega)).trans cel_1c1
  have res_2c0 := (k2.cell (p := ⟨Z + 1 + 1, 0, none⟩) (by show Z + 1 + 1 < _; omega)).trans res_1c0
  have res_2c1 := (k2.cell (p := ⟨Z + 1 + 1, 1, none⟩) (by show Z + 1 + 1 < _; omega)).trans res_1c1
  have res_2c2 := (k2.cell (p := ⟨Z + 1 + 1, 2, none⟩) (by show Z + 1 + 1 < _; omega)).trans res_1c2
  have res_2c3 := (k2.cell (p := ⟨Z + 1 + 1, 3, none⟩) (by show Z + 1 + 1 < _; omega)).trans res_1c3
  have res_2f0 := (k2.frozen (p := ⟨Z + 1 + 1, 0, none⟩) (by show Z + 1 + 1 < _; omega)).trans res_1f0
  have res_2f1 := (k2.frozen (p := ⟨Z + 1 + 1, 1, none⟩) (by show Z + 1 + 1 < _; omega)).trans res_1f1
  have res_2f2 := (k2.frozen (p := ⟨Z + 1 + 1, 2, none⟩) (by show Z + 1 + 1 < _; omega)).trans res_1f2
  have res_2f3 := (k2.frozen (p := ⟨Z + 1 + 1, 3, none⟩) (by show Z + 1 + 1 < _; omega)).trans res_1f3
  have BB2 := Lib.hid (BB1.out.trans (k2.mono BB1.out.size))
  clear k2 sea_1c0 sea_1c1 sea_1c2 sea_1c3 sea_1c4 sea_1c5 sea_1c6 sea_1c7 sea_1c8 sea_1c9 sea_1c10 cel_1c0 cel_1c1 res_1c0 res_1c1 res_1c2 res_1c3 res_1f0 res_1f1 res_1f2 res_1f3 BB1
  go_upto_region 2 with fail
  obtain ⟨P, hP⟩ : ∃ Z, w2.heap.size = Z := ⟨_, rfl⟩
  obtain ⟨w3, hw3⟩ : ∃ Z, ((w2.alloc (.cells #[.int .i64 0, .int .i64 0] 203)).alloc (.cells #[.int .i64 0, .int .i64 0] 203)) = Z := ⟨_, rfl⟩
  have k3 : Below w2.heap.size w2 w3 := by rw [← hw3]; exact (((Below.refl _ _).alloc (Nat.le_refl _) _).alloc (by simp) _)
  have z3 : P + 1 < w3.heap.size := by rw [← hw3, ← hP]; simp
  have y3 : w2.heap.size = P := hP
  have u_3c0 : w3.cell? ⟨P, 0, none⟩ = some (.int .i64 0) := by rw [← hw3, ← hP]; simp [go_sem]
  have u_3c1 : w3.cell? ⟨P, 1, none⟩ = some (.int .i64 0) := by rw [← hw3, ← hP]; simp [go_sem]
  have v_3c0 : w3.cell? ⟨P + 1, 0, none⟩ = some (.int .i64 0) := by rw [← hw3, ← hP]; simp [go_sem]
  have v_3c1 : w3.cell? ⟨P + 1, 1, none⟩ = some (.int .i64 0) := by rw [← hw3, ← hP]; simp [go_sem]
  (try rw [hw3]); (try rw [hP])
  clear hw3 hP
  have S3 := k3.size
  have sea_3c0 := (k3.cell (p := ⟨Z, 0, none⟩) (by show Z < _; omega)).trans sea_2c0
  have sea_3c1 := (k3.cell (p := ⟨Z, 1, none⟩) (by show Z < _; omega)).trans sea_2c1
  have sea_3c2 := (k3.cell (p := ⟨Z, 2, none⟩) (by show Z < _; omega)).trans sea_2c2
  have sea_3c3 := (k3.cell (p := ⟨Z, 3, none⟩) (by show Z < _; omega)).trans sea_2c3
  have sea_3c4 := (k3.cell (p := ⟨Z, 4, none⟩) (by show Z < _; omega)).trans sea_2c4
  have sea_3c5 := (k3.cell (p := ⟨Z, 5, none⟩) (by show Z < _; omega)).trans sea_2c5
  have sea_3c6 := (k3.cell (p := ⟨Z, 6, none⟩) (by show Z < _; omega)).trans sea_2c6
  have sea_3c7 := (k3.cell (p := ⟨Z, 7, none⟩) (by show Z < _; omega)).trans sea_2c7
  have sea_3c8 := (k3.cell (p := ⟨Z, 8, none⟩) (by show Z < _; omega)).trans sea_2c8
  have sea_3c9 := (k3.cell (p := ⟨Z, 9, none⟩) (by show Z < _; omega)).trans sea_2c9
  have sea_3c10 := (k3.cell (p := ⟨Z, 10, none⟩) (by show Z < _; omega)).trans sea_2c10
  have cel_3c0 := (k3.cell (p := ⟨Z + 1, 0, none⟩) (by show Z + 1 < _; omega)).trans cel_2c0
  have cel_3c1 := (k3.cell (p := ⟨Z + 1, 1, none⟩) (by show Z + 1 < _; omega)).trans cel_2c1
  have res_3c0 := (k3.cell (p := ⟨Z + 1 + 1, 0, none⟩) (by show Z + 1 + 1 < _; omega)).trans res_2c0
  have res_3c1 := (k3.cell (p := ⟨Z + 1 + 1, 1, none⟩) (by show Z + 1 + 1 < _; omega)).trans res_2c1
  have res_3c2 := (k3.cell (p := ⟨Z + 1 + 1, 2, none⟩) (by show Z + 1 + 1 < _; omega)).trans res_2c2
  have res_3c3 := (k3.cell (p := ⟨Z + 1 + 1, 3, none⟩) (by show Z + 1 + 1 < _; omega)).trans res_2c3
  have res_3f0 := (k3.frozen (p := ⟨Z + 1 + 1, 0, none⟩) (by show Z + 1 + 1 < _; omega)).trans res_2f0
  have res_3f1 := (k3.frozen (p := ⟨Z + 1 + 1, 1, none⟩) (by show Z + 1 + 1 < _; omega)).trans res_2f1
  have res_3f2 := (k3.frozen (p := ⟨Z + 1 + 1, 2, none⟩) (by show Z + 1 + 1 < _; omega)).trans res_2f2
  have res_3f3 := (k3.frozen (p := ⟨Z + 1 + 1, 3, none⟩) (by show Z + 1 + 1 < _; omega)).trans res_2f3
  have BB3 := Lib.hid (BB2.out.trans (k3.mono BB2.out.size))
  clear k3 sea_2c0 sea_2c1 sea_2c2 sea_2c3 sea_2c4 sea_2c5 sea_2c6 sea_2c7 sea_2c8 sea_2c9 sea_2c10 cel_2c0 cel_2c1 res_2c0 res_2c1 res_2c2 res_2c3 res_2f0 res_2f1 res_2f2 res_2f3 BB2
  go_wp2_with fail
  refine (at_nil x y t _).mono ?_
  rintro e w4 ⟨rfl, hb4⟩
  have k4 : Below w3.heap.size w3 w4 := hb4
  clear hb4
  have S4 := k4.size
  have sea_4c0 := (k4.cell (p := ⟨Z, 0, none⟩) (by show Z < _; omega)).trans sea_3c0
  have sea_4c1 := (k4.cell (p := ⟨Z, 1, none⟩) (by show Z < _; omega)).trans sea_3c1
  have sea_4c2 := (k4.cell (p := ⟨Z, 2, none⟩) (by show Z < _; omega)).trans sea_3c2
  have sea_4c3 := (k4.cell (p := ⟨Z, 3, none⟩) (by show Z < _; omega)).trans sea_3c3
  have sea_4c4 := (k4.cell (p := ⟨Z, 4, none⟩) (by show Z < _; omega)).trans sea_3c4
  have sea_4c5 := (k4.cell (p := ⟨Z, 5, none⟩) (by show Z < _; omega)).trans sea_3c5
  have sea_4c6 := (k4.cell (p := ⟨Z, 6, none⟩) (by show Z < _; omega)).trans sea_3c6
  have sea_4c7 := (k4.cell (p := ⟨Z, 7, none⟩) (by show Z < _; omega)).trans sea_3c7
  have sea_4c8 := (k4.cell (p := ⟨Z, 8, none⟩) (by show Z < _; omega)).trans sea_3c8
  have sea_4c9 := (k4.cell (p := ⟨Z, 9, none⟩) (by show Z < _; omega)).trans sea_3c9
  have sea_4c10 := (k4.cell (p := ⟨Z, 10, none⟩) (by show Z < _; omega)).trans sea_3c10
  have cel_4c0 := (k4.cell (p := ⟨Z + 1, 0, none⟩) (by show Z + 1 < _; omega)).trans cel_3c0
  have cel_4c1 := (k4.cell (p := ⟨Z + 1, 1, none⟩) (by show Z + 1 < _; omega)).trans cel_3c1
  have res_4c0 := (k4.cell (p := ⟨Z + 1 + 1, 0, none⟩) (by show Z + 1 + 1 < _; omega)).trans res_3c0
  have res_4c1 := (k4.cell (p := ⟨Z + 1 + 1, 1, none⟩) (by show Z + 1 + 1 < _; omega)).trans res_3c1
  have res_4c2 := (k4.cell (p := ⟨Z + 1 + 1, 2, none⟩) (by show Z + 1 + 1 < _; omega)).trans res_3c2
  have res_4c3 := (k4.cell (p := ⟨Z + 1 + 1, 3, none⟩) (by show Z + 1 + 1 < _; omega)).trans res_3c3
  have res_4f0 := (k4.frozen (p := ⟨Z + 1 + 1, 0, none⟩) (by show Z + 1 + 1 < _; omega)).trans res_3f0
  have res_4f1 := (k4.frozen (p := ⟨Z + 1 + 1, 1, none⟩) (by show Z + 1 + 1 < _; omega)).trans res_3f1
  have res_4f2 := (k4.frozen (p := ⟨Z + 1 + 1, 2, none⟩) (by show Z + 1 + 1 < _; omega)).trans res_3f2
  have res_4f3 := (k4.frozen (p := ⟨Z + 1 + 1, 3, none⟩) (by show Z + 1 + 1 < _; omega)).trans res_3f3
  have u_4c0 := (k4.cell (p := ⟨P, 0, none⟩) (by show P < _; omega)).trans u_3c0
  have u_4c1 := (k4.cell (p := ⟨P, 1, none⟩) (by show P < _; omega)).trans u_3c1
  have v_4c0 := (k4.cell (p := ⟨P + 1, 0, none⟩) (by show P + 1 < _; omega)).trans v_3c0
  have v_4c1 := (k4.cell (p := ⟨P + 1, 1, none⟩) (by show P + 1 < _; omega)).trans v_3c1
  have BB4 := Lib.hid (BB3.out.trans (k4.mono BB3.out.size))
  clear k4 sea_3c0 sea_3c1 sea_3c2 sea_3c3 sea_3c4 sea_3c5 sea_3c6 sea_3c7 sea_3c8 sea_3c9 sea_3c10 cel_3c0 cel_3c1 res_3c0 res_3c1 res_3c2 res_3c3 res_3f0 res_3f1 res_3f2 res_3f3 u_3c0 u_3c1 v_3c0 v_3c1 BB3
  go_upto_region 3 with fail
  obtain ⟨Q, hQ⟩ : ∃ Z, w4.heap.size = Z := ⟨_, rfl⟩
  obtain ⟨w5, hw5⟩ : ∃ Z, ((w4.alloc (.cells #[.int .i64 0, .int .i64 0] 203)).alloc (.cells #[.int .i64 0, .int .i64 0] 203)) = Z := ⟨_, rfl⟩
  have k5 : Below w4.heap.size w4 w5 := by rw [← hw5]; exact (((Below.refl _ _).alloc (Nat.le_refl _) _).alloc (by simp) _)
  have z5 : Q + 1 < w5.heap.size := by rw [← hw5, ← hQ]; simp
  have y5 : w4.heap.size = Q := hQ
  have a_5c0 : w5.cell? ⟨Q, 0, none⟩ = some (.int .i64 0) := by rw [← hw5, ← hQ]; simp [go_sem]
  have a_5c1 : w5.cell? ⟨Q, 1, none⟩ = some (.int .i64 0) := by rw [← hw5, ← hQ]; simp [go_sem]
  have b_5c0 : w5.cell? ⟨Q + 1, 0, none⟩ = some (.int .i64 0) := by rw [← hw5, ← hQ]; simp [go_sem]
  have b_5c1 : w5.cell? ⟨Q + 1, 1, none⟩ = some (.int .i64 0) := by rw [← hw5, ← hQ]; simp [go_sem]
  (try rw [hw5]); (try rw [hQ])
  clear hw5 hQ
  have S5 := k5.size
  have sea_5c0 := (k5.cell (p := ⟨Z, 0, none⟩) (by show Z < _; omega)).trans sea_4c0
  have sea_5c1 := (k5.cell (p := ⟨Z, 1, none⟩) (by show Z < _; omega)).trans sea_4c1
  have sea_5c2 := (k5.cell (p := ⟨Z, 2, none⟩) (by show Z < _; omega)).trans sea_4c2
  have sea_5c3 := (k5.cell (p := ⟨Z, 3, none⟩) (by show Z < _; omega)).trans sea_4c3
  have sea_5c4 := (k5.cell (p := ⟨Z, 4, none⟩) (by show Z < _; omega)).trans sea_4c4
  have sea_5c5 := (k5.cell (p := ⟨Z, 5, none⟩) (by show Z < _; omega)).trans sea_4c5
  have sea_5c6 := (k5.cell (p := ⟨Z, 6, none⟩) (by show Z < _; omega)).trans sea_4c6
  have sea_5c7 := (k5.cell (p := ⟨Z, 7, none⟩) (by show Z < _; omega)).trans sea_4c7
  have sea_5c8 := (k5.cell (p := ⟨Z, 8, none⟩) (by show Z < _; omega)).trans sea_4c8
  have sea_5c9 := (k5.cell (p := ⟨Z, 9, none⟩) (by show Z < _; omega)).trans sea_4c9
  have sea_5c10 := (k5.cell (p := ⟨Z, 10, none⟩) (by show Z < _; omega)).trans sea_4c10
  have cel_5c0 := (k5.cell (p := ⟨Z + 1, 0, none⟩) (by show Z + 1 < _; omega)).trans cel_4c0
  have cel_5c1 := (k5.cell (p := ⟨Z + 1, 1, none⟩) (by show Z + 1 < _; omega)).trans cel_4c1
  have res_5c0 := (k5.cell (p := ⟨Z + 1 + 1, 0, none⟩) (by show Z + 1 + 1 < _; omega)).trans res_4c0
  have res_5c1 := (k5.cell (p := ⟨Z + 1 + 1, 1, none⟩) (by show Z + 1 + 1 < _; omega)).trans res_4c1
  have res_5c2 := (k5.cell (p := ⟨Z + 1 + 1, 2, none⟩) (by show Z + 1 + 1 < _; omega)).trans res_4c2
  have res_5c3 := (k5.cell (p := ⟨Z + 1 + 1, 3, none⟩) (by show Z + 1 + 1 < _; omega)).trans res_4c3
  have res_5f0 := (k5.frozen (p := ⟨Z + 1 + 1, 0, none⟩) (by show Z + 1 + 1 < _; omega)).trans res_4f0
  have res_5f1 := (k5.frozen (p := ⟨Z + 1 + 1, 1, none⟩) (by show Z + 1 + 1 < _; omega)).trans res_4f1
  have res_5f2 := (k5.frozen (p := ⟨Z + 1 + 1, 2, none⟩) (by show Z + 1 + 1 < _; omega)).trans res_4f2
  have res_5f3 := (k5.frozen (p := ⟨Z + 1 + 1, 3, none⟩) (by show Z + 1 + 1 < _; omega)).trans res_4f3
  have u_5c0 := (k5.cell (p := ⟨P, 0, none⟩) (by show P < _; omega)).trans u_4c0
  have u_5c1 := (k5.cell (p := ⟨P, 1, none⟩) (by show P < _; omega)).trans u_4c1
  have v_5c0 := (k5.cell (p := ⟨P + 1, 0, none⟩) (by show P + 1 < _; omega)).trans v_4c0
  have v_5c1 := (k5.cell (p := ⟨P + 1, 1, none⟩) (by show P + 1 < _; omega)).trans v_4c1
  have BB5 := Lib.hid (BB4.out.trans (k5.mono BB4.out.size))
  clear k5 sea_4c0 sea_4c1 sea_4c2 sea_4c3 sea_4c4 sea_4c5 sea_4c6 sea_4c7 sea_4c8 sea_4c9 sea_4c10 cel_4c0 cel_4c1 res_4c0 res_4c1 res_4c2 res_4c3 res_4f0 res_4f1 res_4f2 res_4f3 u_4c0 u_4c1 v_4c0 v_4c1 BB4
  clear sea_5c0 sea_5c1 sea_5c2 sea_5c3 sea_5c4 sea_5c5 sea_5c6 sea_5c7 sea_5c8 sea_5c9 sea_5c10
  clear cel_5c0 cel_5c1
  clear u_5c0 u_5c1
  clear v_5c0 v_5c1
  clear a_5c0 a_5c1
  clear b_5c0 b_5c1
  go_wp2_with fail
  refine bodyPost_ret (v := .tuple #[.agg #[.int .i64 0, .int .i64 0, .int .i64 0, .int .i64 0], .bool false]) (by simp [results, Try.results97, go_sem, res_5c0, res_5c1, res_5c2, res_5c3]) rfl ⟨rfl, ((((BB5.out.setCell (p := ⟨Z + 1 + 1, 0, none⟩) (by show _ ≤ Z + 1 + 1; omega) _).setCell (p := ⟨Z + 1 + 1, 1, none⟩) (by show _ ≤ Z + 1 + 1; omega) _).setCell (p := ⟨Z + 1 + 1, 2, none⟩) (by show _ ≤ Z + 1 + 1; omega) _).setCell (p := ⟨Z + 1 + 1, 3, none⟩) (by show _ ≤ Z + 1 + 1; omega) _)⟩

set_option maxRecDepth 100000 in
set_option maxHeartbeats 16000000 in
theorem Push_dn (side lo hi : Int) (L A : Option Addr) (lc b1 b2 c : Nat) (w : World) (hside : (side = 0 ∧ lo = 50 ∧ hi = 100) ∨ (side = 1 ∧ lo = -100 ∧ hi = -50)) (hB : Bay w L lc b1 b2 A c) :
    Calls Try.prog 44 #[.agg #[.int .i64 5, .int .i64 5, .int .i64 100, .slice L 5 lc], .agg #[.slice (some ⟨b1, 0, none⟩) 1 1, .slice (some ⟨b2, 0, none⟩) 1 1], .agg #[.int .i64 20, .int .i64 20, .int .i64 10, .int .i64 20, .bool false], .agg #[.int .i64 1, .int .i64 1], .int .i64 side, .int .i64 0, .int .i64 1000] w fun e w' => e = .returned (.tuple #[.agg #[.int .i64 100, .int .i64 lo, .int .i64 100, .int .i64 hi], .int .i64 0]) ∧ Below w.heap.size w w' := by
  have BB0 := Lib.hid (Below.refl w.heap.size w)
  have HB_0 := Lib.hid hB
  have HS := Lib.hid hside
  clear hside
  clear hB
  go_enter Try.func44, Try.ntmps44
  go_upto_region 1 with fail
  obtain ⟨Z, hZ⟩ : ∃ Z, w.heap.size = Z := ⟨_, rfl⟩
  obtain ⟨w1, hw1⟩ : ∃ Z, (((((w.alloc (.cells #[.int .i64 5, .int .i64 5, .int .i64 100, .slice L 5 lc] 24)).alloc (.cells #[.slice (some ⟨b1, 0, none⟩) 1 1, .slice (some ⟨b2, 0, none⟩) 1 1] 80)).alloc (.cells #[.int .i64 20, .int .i64 20, .int .i64 10, .int .i64 20, .bool false] 82)).alloc (.cells #[.int .i64 1, .int .i64 1] 39)).alloc (.cells #[.int .i64 0, .int .i64 0, .int .i64 0, .int .i64 0] 28)) = Z := ⟨_, rfl⟩
  have k1 : Below w.heap.size w w1 := by rw [← hw1]; exact ((((((Below.refl _ _).alloc (Nat.le_refl _) _).alloc (by simp) _).alloc (by simp; omega) _).alloc (by simp; omega) _).alloc (by simp; omega) _)
  have z1 : Z + 1 + 1 + 1 + 1 < w1.heap.size := by rw [← hw1, ← hZ]; simp
  have y1 : w.heap.size = Z := hZ
  have gb_1c0 : w1.cell? ⟨Z, 0, none⟩ = some (.int .i64 5) := by rw [← hw1, ← hZ]; simp [go_sem]
  have gb_1c1 : w1.cell? ⟨Z, 1, none⟩ = some (.int .i64 5) := by rw [← hw1, ← hZ]; simp [go_sem]
  have gb_1c2 : w1.cell? ⟨Z, 2, none⟩ = some (.int .i64 100) := by rw [← hw1, ← hZ]; simp [go_sem]
  have gb_1c3 : w1.cell? ⟨Z, 3, none⟩ = some (.slice L 5 lc) := by rw [← hw1, ← hZ]; simp [go_sem]
  have fb_1c0 : w1.cell? ⟨Z + 1, 0, none⟩ = some (.slice (some ⟨b1, 0, none⟩) 1 1) := by rw [← hw1, ← hZ]; simp [go_sem]
  have fb_1c1 : w1.cell? ⟨Z + 1, 1, none⟩ = some (.slice (some ⟨b2, 0, none⟩) 1 1) := by rw [← hw1, ← hZ]; simp [go_sem]
  have db_1c0 : w1.cell? ⟨Z + 1 + 1, 0, none⟩ = some (.int .i64 20) := by rw [← hw1, ← hZ]; simp [go_sem]
  have db_1c1 : w1.cell? ⟨Z + 1 + 1, 1, none⟩ = some (.int .i64 20) := by rw [← hw1, ← hZ]; simp [go_sem]
  have db_1c2 : w1.cell? ⟨Z + 1 + 1, 2, none⟩ = some (.int .i64 10) := by rw [← hw1, ← hZ]; simp [go_sem]
  have db_1c3 : w1.cell? ⟨Z + 1 + 1, 3, none⟩ = some (.int .i64 20) := by rw [← hw1, ← hZ]; simp [go_sem]
  have db_1c4 : w1.cell? ⟨Z + 1 + 1, 4, none⟩ = some (.bool false) := by rw [← hw1, ← hZ]; simp [go_sem]
  have cb_1c0 : w1.cell? ⟨Z + 1 + 1 + 1, 0, none⟩ = some (.int .i64 1) := by rw [← hw1, ← hZ]; simp [go_sem]
  have cb_1c1 : w1.cell? ⟨Z + 1 + 1 + 1, 1, none⟩ = some (.int .i64 1) := by rw [← hw1, ← hZ]; simp [go_sem]
  have res_1c0 : w1.cell? ⟨Z + 1 + 1 + 1 + 1, 0, none⟩ = some (.int .i64 0) := by rw [← hw1, ← hZ]; simp [go_sem]
  have res_1c1 : w1.cell? ⟨Z + 1 + 1 + 1 + 1, 1, none⟩ = some (.int .i64 0) := by rw [← hw1, ← hZ]; simp [go_sem]
  have res_1c2 : w1.cell? ⟨Z + 1 + 1 + 1 + 1, 2, none⟩ = some (.int .i64 0) := by rw [← hw1, ← hZ]; simp [go_sem]
  have res_1c3 : w1.cell? ⟨Z + 1 + 1 + 1 + 1, 3, none⟩ = some (.int .i64 0) := by rw [← hw1, ← hZ]; simp [go_sem]
  have res_1f0 : w1.frozen? ⟨Z + 1 + 1 + 1 + 1, 0, none⟩ = false := by rw [← hw1, ← hZ]; simp [go_sem]
  have res_1f1 : w1.frozen? ⟨Z + 1 + 1 + 1 + 1, 1, none⟩ = false := by rw [← hw1, ← hZ]; simp [go_sem]
  have res_1f2 : w1.frozen? ⟨Z + 1 + 1 + 1 + 1, 2, none⟩ = false := by rw [← hw1, ← hZ]; simp [go_sem]
  have res_1f3 : w1.frozen? ⟨Z + 1 + 1 + 1 + 1, 3, none⟩ = false := by rw [← hw1, ← hZ]; simp [go_sem]
  (try rw [hw1]); (try rw [hZ])
  clear hw1 hZ
  have S1 := k1.size
  have HB_1 := Lib.hid (HB_0.out.below k1)
  have BB1 := Lib.hid (BB0.out.trans (k1.mono BB0.out.size))
  clear k1 HB_0 BB0
  go_upto_region 2 with fail
  obtain ⟨P, hP⟩ : ∃ Z, w1.heap.size = Z := ⟨_, rfl⟩
  obtain ⟨w2, hw2⟩ : ∃ Z, (w1.alloc (.cells #[.int .i64 5, .int .i64 5, .int .i64 100, .slice L 5 lc, .slice (some ⟨b1, 0, none⟩) 1 1, .slice (some ⟨b2, 0, none⟩) 1 1, .int .i64 20, .int .i64 20, .int .i64 10, .int .i64 20, .bool false] 165)) = Z := ⟨_, rfl⟩
  have k2 : Below w1.heap.size w1 w2 := by rw [← hw2]; exact ((Below.refl _ _).alloc (Nat.le_refl _) _)
  have z2 : P < w2.heap.size := by rw [← hw2, ← hP]; simp
  have y2 : w1.heap.size = P := hP
  have sea_2c0 : w2.cell? ⟨P, 0, none⟩ = some (.int .i64 5) := by rw [← hw2, ← hP]; simp [go_sem]
  have sea_2c1 : w2.cell? ⟨P, 1, none⟩ = some (.int .i64 5) := by rw [← hw2, ← hP]; simp [go_sem]
  have sea_2c2 : w2.cell? ⟨P, 2, none⟩ = some (.int .i64 100) := by rw [← hw2, ← hP]; simp [go_sem]
  have sea_2c3 : w2.cell? ⟨P, 3, none⟩ = some (.slice L 5 lc) := by rw [← hw2, ← hP]; simp [go_sem]
  have sea_2c4 : w2.cell? ⟨P, 4, none⟩ = some (.slice (some ⟨b1, 0, none⟩) 1 1) := by rw [← hw2, ← hP]; simp [go_sem]
  have sea_2c5 : w2.cell? ⟨P, 5, none⟩ = some (.slice (some ⟨b2, 0, none⟩) 1 1) := by rw [← hw2, ← hP]; simp [go_sem]
  have sea_2c6 : w2.cell? ⟨P, 6, none⟩ = some (.int .i64 20) := by rw [← hw2, ← hP]; simp [go_sem]
  have sea_2c7 : w2.cell? ⟨P, 7, none⟩ = some (.int .i64 20) := by rw [← hw2, ← hP]; simp [go_sem]
  have sea_2c8 : w2.cell? ⟨P, 8, none⟩ = some (.int .i64 10) := by rw [← hw2, ← hP]; simp [go_sem]
  have sea_2c9 : w2.cell? ⟨P, 9, none⟩ = some (.int .i64 20) := by rw [← hw2, ← hP]; simp [go_sem]
  have sea_2c10 : w2.cell? ⟨P, 10, none⟩ = some (.bool false) := by rw [← hw2, ← hP]; simp [go_sem]
  (try rw [hw2]); (try rw [hP])
  clear hw2 hP
  have S2 := k2.size
  have gb_2c0 := (k2.cell (p := ⟨Z, 0, none⟩) (by show Z < _; omega)).trans gb_1c0
  have gb_2c1 := (k2.cell (p := ⟨Z, 1, none⟩) (by show Z < _; omega)).trans gb_1c1
  have gb_2c2 := (k2.cell (p := ⟨Z, 2, none⟩) (by show Z < _; omega)).trans gb_1c2
  have gb_2c3 := (k2.cell (p := ⟨Z, 3, none⟩) (by show Z < _; omega)).trans gb_1c3
  have fb_2c0 := (k2.cell (p := ⟨Z + 1, 0, none⟩) (by show Z + 1 < _; omega)).trans fb_1c0
  have fb_2c1 := (k2.cell (p := ⟨Z + 1, 1, none⟩) (by show Z + 1 < _; omega)).trans fb_1c1
  have db_2c0 := (k2.cell (p := ⟨Z + 1 + 1, 0, none⟩) (by show Z + 1 + 1 < _; omega)).trans db_1c0
  have db_2c1 := (k2.cell (p := ⟨Z + 1 + 1, 1, none⟩) (by show Z + 1 + 1 < _; omega)).trans db_1c1
  have db_2c2 := (k2.cell (p := ⟨Z + 1 + 1, 2, none⟩) (by show Z + 1 + 1 < _; omega)).trans db_1c2
  have db_2c3 := (k2.cell (p := ⟨Z + 1 + 1, 3, none⟩) (by show Z + 1 + 1 < _; omega)).trans db_1c3
  have db_2c4 := (k2.cell (p := ⟨Z + 1 + 1, 4, none⟩) (by show Z + 1 + 1 < _; omega)).trans db_1c4
  have cb_2c0 := (k2.cell (p := ⟨Z + 1 + 1 + 1, 0, none⟩) (by show Z + 1 + 1 + 1 < _; omega)).trans cb_1c0
  have cb_2c1 := (k2.cell (p := ⟨Z + 1 + 1 + 1, 1, none⟩) (by show Z + 1 + 1 + 1 < _; omega)).trans cb_1c1
  have res_2c0 := (k2.cell (p := ⟨Z + 1 + 1 + 1 + 1, 0, none⟩) (by show Z + 1 + 1 + 1 + 1 < _; omega)).trans res_1c0
  have res_2c1 := (k2.cell (p := ⟨Z + 1 + 1 + 1 + 1, 1, none⟩) (by show Z + 1 + 1 + 1 + 1 < _; omega)).trans res_1c1
  have res_2c2 := (k2.cell (p := ⟨Z + 1 + 1 + 1 + 1, 2, none⟩) (by show Z + 1 + 1 + 1 + 1 < _; omega)).trans res_1c2
  have res_2c3 := (k2.cell (p := ⟨Z + 1 + 1 + 1 + 1, 3, none⟩) (by show Z + 1 + 1 + 1 + 1 < _; omega)).trans res_1c3
  have res_2f0 := (k2.frozen (p := ⟨Z + 1 + 1 + 1 + 1, 0, none⟩) (by show Z + 1 + 1 + 1 + 1 < _; omega)).trans res_1f0
  have res_2f1 := (k2.frozen (p := ⟨Z + 1 + 1 + 1 + 1, 1, none⟩) (by show Z + 1 + 1 + 1 + 1 < _; omega)).trans res_1f1
  have res_2f2 := (k2.frozen (p := ⟨Z + 1 + 1 + 1 + 1, 2, none⟩) (by show Z + 1 + 1 + 1 + 1 < _; omega)).trans res_1f2
  have res_2f3 := (k2.frozen (p := ⟨Z + 1 + 1 + 1 + 1, 3, none⟩) (by show Z + 1 + 1 + 1 + 1 < _; omega)).trans res_1f3
  have HB_2 := Lib.hid (HB_1.out.below k2)
  have BB2 := Lib.hid (BB1.out.trans (k2.mono BB1.out.size))
  clear k2 gb_1c0 gb_1c1 gb_1c2 gb_1c3 fb_1c0 fb_1c1 db_1c0 db_1c1 db_1c2 db_1c3 db_1c4 cb_1c0 cb_1c1 res_1c0 res_1c1 res_1c2 res_1c3 res_1f0 res_1f1 res_1f2 res_1f3 HB_1 BB1
  go_wp2_with fail
  refine (right_dn L A lc b1 b2 c 1000 _ HB_2.out (by decide)).mono ?_
  rintro e w3 ⟨rfl, hb3⟩
  have k3 : Below w2.heap.size w2 w3 := hb3
  clear hb3
  have S3 := k3.size
  have gb_3c0 := (k3.cell (p := ⟨Z, 0, none⟩) (by show Z < _; omega)).trans gb_2c0
  have gb_3c1 := (k3.cell (p := ⟨Z, 1, none⟩) (by show Z < _; omega)).trans gb_2c1
  have gb_3c2 := (k3.cell (p := ⟨Z, 2, none⟩) (by show Z < _; omega)).trans gb_2c2
  have gb_3c3 := (k3.cell (p := ⟨Z, 3, none⟩) (by show Z < _; omega)).trans gb_2c3
  have fb_3c0 := (k3.cell (p := ⟨Z + 1, 0, none⟩) (by show Z + 1 < _; omega)).trans fb_2c0
  have fb_3c1 := (k3.cell (p := ⟨Z + 1, 1, none⟩) (by show Z + 1 < _; omega)).trans fb_2c1
  have db_3c0 := (k3.cell (p := ⟨Z + 1 + 1, 0, none⟩) (by show Z + 1 + 1 < _; omega)).trans db_2c0
  have db_3c1 := (k3.cell (p := ⟨Z + 1 + 1, 1, none⟩) (by show Z + 1 + 1 < _; omega)).trans db_2c1
  have db_3c2 := (k3.cell (p := ⟨Z + 1 + 1, 2, none⟩) (by show Z + 1 + 1 < _; omega)).trans db_2c2
  have db_3c3 := (k3.cell (p := ⟨Z + 1 + 1, 3, none⟩) (by show Z + 1 + 1 < _; omega)).trans db_2c3
  have db_3c4 := (k3.cell (p := ⟨Z + 1 + 1, 4, none⟩) (by show Z + 1 + 1 < _; omega)).trans db_2c4
  have cb_3c0 := (k3.cell (p := ⟨Z + 1 + 1 + 1, 0, none⟩) (by show Z + 1 + 1 + 1 < _; omega)).trans cb_2c0
  have cb_3c1 := (k3.cell (p := ⟨Z + 1 + 1 + 1, 1, none⟩) (by show Z + 1 + 1 + 1 < _; omega)).trans cb_2c1
  have res_3c0 := (k3.cell (p := ⟨Z + 1 + 1 + 1 + 1, 0, none⟩) (by show Z + 1 + 1 + 1 + 1 < _; omega)).trans res_2c0
  have res_3c1 := (k3.cell (p := ⟨Z + 1 + 1 + 1 + 1, 1, none⟩) (by show Z + 1 + 1 + 1 + 1 < _; omega)).trans res_2c1
  have res_3c2 := (k3.cell (p := ⟨Z + 1 + 1 + 1 + 1, 2, none⟩) (by show Z + 1 + 1 + 1 + 1 < _; omega)).trans res_2c2
  have res_3c3 := (k3.cell (p := ⟨Z + 1 + 1 + 1 + 1, 3, none⟩) (by show Z + 1 + 1 + 1 + 1 < _; omega)).trans res_2c3
  have res_3f0 := (k3.frozen (p := ⟨Z + 1 + 1 + 1 + 1, 0, none⟩) (by show Z + 1 + 1 + 1 + 1 < _; omega)).trans res_2f0
  have res_3f1 := (k3.frozen (p := ⟨Z + 1 + 1 + 1 + 1, 1, none⟩) (by show Z + 1 + 1 + 1 + 1 < _; omega)).trans res_2f1
  have res_3f2 := (k3.frozen (p := ⟨Z + 1 + 1 + 1 + 1, 2, none⟩) (by show Z + 1 + 1 + 1 + 1 < _; omega)).trans res_2f2
  have res_3f3 := (k3.frozen (p := ⟨Z + 1 + 1 + 1 + 1, 3, none⟩) (by show Z + 1 + 1 + 1 + 1 < _; omega)).trans res_2f3
  have sea_3c0 := (k3.cell (p := ⟨P, 0, none⟩) (by show P < _; omega)).trans sea_2c0
  have sea_3c1 := (k3.cell (p := ⟨P, 1, none⟩) (by show P < _; omega)).trans sea_2c1
  have sea_3c2 := (k3.cell (p := ⟨P, 2, none⟩) (by show P < _; omega)).trans sea_2c2
  have sea_3c3 := (k3.cell (p := ⟨P, 3, none⟩) (by show P < _; omega)).trans sea_2c3
  have sea_3c4 := (k3.cell (p := ⟨P, 4, none⟩) (by show P < _; omega)).trans sea_2c4
  have sea_3c5 := (k3.cell (p := ⟨P, 5, none⟩) (by show P < _; omega)).trans sea_2c5
  have sea_3c6 := (k3.cell (p := ⟨P, 6, none⟩) (by show P < _; omega)).trans sea_2c6
  have sea_3c7 := (k3.cell (p := ⟨P, 7, none⟩) (by show P < _; omega)).trans sea_2c7
  have sea_3c8 := (k3.cell (p := ⟨P, 8, none⟩) (by show P < _; omega)).trans sea_2c8
  have sea_3c9 := (k3.cell (p := ⟨P, 9, none⟩) (by show P < _; omega)).trans sea_2c9
  have sea_3c10 := (k3.cell (p := ⟨P, 10, none⟩) (by show P < _; omega)).trans sea_2c10
  have HB_3 := Lib.hid (HB_2.out.below k3)
  have BB3 := Lib.hid (BB2.out.trans (k3.mono BB2.out.size))
  clear k3 gb_2c0 gb_2c1 gb_2c2 gb_2c3 fb_2c0 fb_2c1 db_2c0 db_2c1 db_2c2 db_2c3 db_2c4 cb_2c0 cb_2c1 res_2c0 res_2c1 res_2c2 res_2c3 res_2f0 res_2f1 res_2f2 res_2f3 sea_2c0 sea_2c1 sea_2c2 sea_2c3 sea_2c4 sea_2c5 sea_2c6 sea_2c7 sea_2c8 sea_2c9 sea_2c10 HB_2 BB2
  go_wp2_with fail
  refine (within_dn _ _ _ _).mono ?_
  rintro e wz ⟨rfl, rfl⟩
  rw [show inB 1 0 4 = true by decide]
  go_wp2_with fail
  refine (within_dn _ _ _ _).mono ?_
  rintro e wz ⟨rfl, rfl⟩
  rw [show inB 1 0 4 = true by decide]
  go_wp2_with fail
  refine (within_dn _ _ _ _).mono ?_
  rintro e wz ⟨rfl, rfl⟩
  rw [show inB side 0 1 = true by rcases HS.out with ⟨rfl, -, -⟩ | ⟨rfl, -, -⟩ <;> decide]
  go_wp2_with fail
  refine (within_dn _ _ _ _).mono ?_
  rintro e wz ⟨rfl, rfl⟩
  rw [show inB 0 0 1073741824 = true by decide]
  go_wp2_with fail
  refine (push_dn side lo hi HS.out L A lc b1 b2 c 1 1 0 _ HB_3.out (by decide +kernel) (by decide)).mono ?_
  rintro e w4 ⟨rfl, hb4⟩
  have k4 : Below w3.heap.size w3 w4 := hb4
  clear hb4
  have S4 := k4.size
  have gb_4c0 := (k4.cell (p := ⟨Z, 0, none⟩) (by show Z < _; omega)).trans gb_3c0
  have gb_4c1 := (k4.cell (p := ⟨Z, 1, none⟩) (by show Z < _; omega)).trans gb_3c1
  have gb_4c2 := (k4.cell (p := ⟨Z, 2, none⟩) (by show Z < _; omega)).trans gb_3c2
  have gb_4c3 := (k4.cell (p := ⟨Z, 3, none⟩) (by show Z < _; omega)).trans gb_3c3
  have fb_4c0 := (k4.cell (p := ⟨Z + 1, 0, none⟩) (by show Z + 1 < _; omega)).trans fb_3c0
  have fb_4c1 := (k4.cell (p := ⟨Z + 1, 1, none⟩) (by show Z + 1 < _; omega)).trans fb_3c1
  have db_4c0 := (k4.cell (p := ⟨Z + 1 + 1, 0, none⟩) (by show Z + 1 + 1 < _; omega)).trans db_3c0
  have db_4c1 := (k4.cell (p := ⟨Z + 1 + 1, 1, none⟩) (by show Z + 1 + 1 < _; omega)).trans db_3c1
  have db_4c2 := (k4.cell (p := ⟨Z + 1 + 1, 2, none⟩) (by show Z + 1 + 1 < _; omega)).trans db_3c2
  have db_4c3 := (k4.cell (p := ⟨Z + 1 + 1, 3, none⟩) (by show Z + 1 + 1 < _; omega)).trans db_3c3
  have db_4c4 := (k4.cell (p := ⟨Z + 1 + 1, 4, none⟩) (by show Z + 1 + 1 < _; omega)).trans db_3c4
  have cb_4c0 := (k4.cell (p := ⟨Z + 1 + 1 + 1, 0, none⟩) (by show Z + 1 + 1 + 1 < _; omega)).trans cb_3c0
  have cb_4c1 := (k4.cell (p := ⟨Z + 1 + 1 + 1, 1, none⟩) (by show Z + 1 + 1 + 1 < _; omega)).trans cb_3c1
  have res_4c0 := (k4.cell (p := ⟨Z + 1 + 1 + 1 + 1, 0, none⟩) (by show Z + 1 + 1 + 1 + 1 < _; omega)).trans res_3c0
  have res_4c1 := (k4.cell (p := ⟨Z + 1 + 1 + 1 + 1, 1, none⟩) (by show Z + 1 + 1 + 1 + 1 < _; omega)).trans res_3c1
  have res_4c2 := (k4.cell (p := ⟨Z + 1 + 1 + 1 + 1, 2, none⟩) (by show Z + 1 + 1 + 1 + 1 < _; omega)).trans res_3c2
  have res_4c3 := (k4.cell (p := ⟨Z + 1 + 1 + 1 + 1, 3, none⟩) (by show Z + 1 + 1 + 1 + 1 < _; omega)).trans res_3c3
  have res_4f0 := (k4.frozen (p := ⟨Z + 1 + 1 + 1 + 1, 0, none⟩) (by show Z + 1 + 1 + 1 + 1 < _; omega)).trans res_3f0
  have res_4f1 := (k4.frozen (p := ⟨Z + 1 + 1 + 1 + 1, 1, none⟩) (by show Z + 1 + 1 + 1 + 1 < _; omega)).trans res_3f1
  have res_4f2 := (k4.frozen (p := ⟨Z + 1 + 1 + 1 + 1, 2, none⟩) (by show Z + 1 + 1 + 1 + 1 < _; omega)).trans res_3f2
  have res_4f3 := (k4.frozen (p := ⟨Z + 1 + 1 + 1 + 1, 3, none⟩) (by show Z + 1 + 1 + 1 + 1 < _; omega)).trans res_3f3
  have sea_4c0 := (k4.cell (p := ⟨P, 0, none⟩) (by show P < _; omega)).trans sea_3c0
  have sea_4c1 := (k4.cell (p := ⟨P, 1, none⟩) (by show P < _; omega)).trans sea_3c1
  have sea_4c2 := (k4.cell (p := ⟨P, 2, none⟩) (by show P < _; omega)).trans sea_3c2
  have sea_4c3 := (k4.cell (p := ⟨P, 3, none⟩) (by show P < _; omega)).trans sea_3c3
  have sea_4c4 := (k4.cell (p := ⟨P, 4, none⟩) (by show P < _; omega)).trans sea_3c4
  have sea_4c5 := (k4.cell (p := ⟨P, 5, none⟩) (by show P < _; omega)).trans sea_3c5
  have sea_4c6 := (k4.cell (p := ⟨P, 6, none⟩) (by show P < _; omega)).trans sea_3c6
  have sea_4c7 := (k4.cell (p := ⟨P, 7, none⟩) (by show P < _; omega)).trans sea_3c7
  have sea_4c8 := (k4.cell (p := ⟨P, 8, none⟩) (by show P < _; omega)).trans sea_3c8
  have sea_4c9 := (k4.cell (p := ⟨P, 9, none⟩) (by show P < _; omega)).trans sea_3c9
  have sea_4c10 := (k4.cell (p := ⟨P, 10, none⟩) (by show P < _; omega)).trans sea_3c10
  have HB_4 := Lib.hid (HB_3.out.below k4)
  have BB4 := Lib.hid (BB3.out.trans (k4.mono BB3.out.size))
  clear k4 gb_3c0 gb_3c1 gb_3c2 gb_3c3 fb_3c0 fb_3c1 db_3c0 db_3c1 db_3c2 db_3c3 db_3c4 cb_3c0 cb_3c1 res_3c0 res_3c1 res_3c2 res_3c3 res_3f0 res_3f1 res_3f2 res_3f3 sea_3c0 sea_3c1 sea_3c2 sea_3c3 sea_3c4 sea_3c5 sea_3c6 sea_3c7 sea_3c8 sea_3c9 sea_3c10 HB_3 BB3
  clear gb_4c0 gb_4c1 gb_4c2 gb_4c3
  clear fb_4c0 fb_4c1
  clear db_4c0 db_4c1 db_4c2 db_4c3 db_4c4
  clear cb_4c0 cb_4c1
  clear sea_4c0 sea_4c1 sea_4c2 sea_4c3 sea_4c4 sea_4c5 sea_4c6 sea_4c7 sea_4c8 sea_4c9 sea_4c10
  go_upto_region 5 with fail
  obtain ⟨Q, hQ⟩ : ∃ Z, w4.heap.size = Z := ⟨_, rfl⟩
  obtain ⟨w5, hw5⟩ : ∃ Z, (w4.alloc (.cells #[.int .i64 100, .int .i64 lo, .int .i64 100, .int .i64 hi] 28)) = Z := ⟨_, rfl⟩
  have k5 : Below w4.heap.size w4 w5 := by rw [← hw5]; exact ((Below.refl _ _).alloc (Nat.le_refl _) _)
  have z5 : Q < w5.heap.size := by rw [← hw5, ← hQ]; simp
  have y5 : w4.heap.size = Q := hQ
  have pp_5c0 : w5.cell? ⟨Q, 0, none⟩ = some (.int .i64 100) := by rw [← hw5, ← hQ]; simp [go_sem]
  have pp_5c1 : w5.cell? ⟨Q, 1, none⟩ = some (.int .i64 lo) := by rw [← hw5, ← hQ]; simp [go_sem]
  have pp_5c2 : w5.cell? ⟨Q, 2, none⟩ = some (.int .i64 100) := by rw [← hw5, ← hQ]; simp [go_sem]
  have pp_5c3 : w5.cell? ⟨Q, 3, none⟩ = some (.int .i64 hi) := by rw [← hw5, ← hQ]; simp [go_sem]
  (try rw [hw5]); (try rw [hQ])
  clear hw5 hQ
  have S5 := k5.size
  have res_5c0 := (k5.cell (p := ⟨Z + 1 + 1 + 1 + 1, 0, none⟩) (by show Z + 1 + 1 + 1 + 1 < _; omega)).trans res_4c0
  have res_5c1 := (k5.cell (p := ⟨Z + 1 + 1 + 1 + 1, 1, none⟩) (by show Z + 1 + 1 + 1 + 1 < _; omega)).trans res_4c1
  have res_5c2 := (k5.cell (p := ⟨Z + 1 + 1 + 1 + 1, 2, none⟩) (by show Z + 1 + 1 + 1 + 1 < _; omega)).trans res_4c2
  have res_5c3 := (k5.cell (p := ⟨Z + 1 + 1 + 1 + 1, 3, none⟩) (by show Z + 1 + 1 + 1 + 1 < _; omega)).trans res_4c3
  have res_5f0 := (k5.frozen (p := ⟨Z + 1 + 1 + 1 + 1, 0, none⟩) (by show Z + 1 + 1 + 1 + 1 < _; omega)).trans res_4f0
  have res_5f1 := (k5.frozen (p := ⟨Z + 1 + 1 + 1 + 1, 1, none⟩) (by show Z + 1 + 1 + 1 + 1 < _; omega)).trans res_4f1
  have res_5f2 := (k5.frozen (p := ⟨Z + 1 + 1 + 1 + 1, 2, none⟩) (by show Z + 1 + 1 + 1 + 1 < _; omega)).trans res_4f2
  have res_5f3 := (k5.frozen (p := ⟨Z + 1 + 1 + 1 + 1, 3, none⟩) (by show Z + 1 + 1 + 1 + 1 < _; omega)).trans res_4f3
  have HB_5 := Lib.hid (HB_4.out.below k5)
  have BB5 := Lib.hid (BB4.out.trans (k5.mono BB4.out.size))
  clear k5 res_4c0 res_4c1 res_4c2 res_4c3 res_4f0 res_4f1 res_4f2 res_4f3 HB_4 BB4
  go_wp2_with fail
  refine bodyPost_ret (v := .tuple #[.agg #[.int .i64 100, .int .i64 lo, .int .i64 100, .int .i64 hi], .int .i64 0]) (by simp [results, Try.results44, go_sem, res_5c0, res_5c1, res_5c2, res_5c3]) rfl ⟨rfl, ?_⟩
  exact ((((BB5.out.setCell (p := ⟨Z + 1 + 1 + 1 + 1, 0, none⟩) (by show _ ≤ Z + 1 + 1 + 1 + 1; omega) _).setCell (p := ⟨Z + 1 + 1 + 1 + 1, 1, none⟩) (by show _ ≤ Z + 1 + 1 + 1 + 1; omega) _).setCell (p := ⟨Z + 1 + 1 + 1 + 1, 2, none⟩) (by show _ ≤ Z + 1 + 1 + 1 + 1; omega) _).setCell (p := ⟨Z + 1 + 1 + 1 + 1, 3, none⟩) (by show _ ≤ Z + 1 + 1 + 1 + 1; omega) _)

set_option maxRecDepth 100000 in
set_option maxHeartbeats 16000000 in
theorem Push_nil (L : Option Addr) (lc : Nat) (w : World) (hB : Runs w (.slice L 5 lc) landB) :
    Calls Try.prog 44 #[.agg #[.int .i64 5, .int .i64 5, .int .i64 100, .slice L 5 lc], .agg #[.slice none 0 0, .slice none 0 0], .agg #[.int .i64 20, .int .i64 20, .int .i64 10, .int .i64 20, .bool false], .agg #[.int .i64 0, .int .i64 0], .int .i64 0, .int .i64 0, .int .i64 1] w fun e w' => e = .returned (.tuple #[.agg #[.int .i64 0, .int .i64 0, .int .i64 0, .int .i64 0], .int .i64 7]) ∧ Below w.heap.size w w' := by
  have BB0 := Lib.hid (Below.refl w.heap.size w)
  have HB_0 := Lib.hid hB
  clear hB
  go_enter Try.func44, Try.ntmps44
  go_upto_region 1 with fail
  obtain ⟨Z, hZ⟩ : ∃ Z, w.heap.size = Z := ⟨_, rfl⟩
  obtain ⟨w1, hw1⟩ : ∃ Z, (((((w.alloc (.cells #[.int .i64 5, .int .i64 5, .int .i64 100, .slice L 5 lc] 24)).alloc (.cells #[.slice none 0 0, .slice none 0 0] 80)).alloc (.cells #[.int .i64 20, .int .i64 20, .int .i64 10, .int .i64 20, .bool false] 82)).alloc (.cells #[.int .i64 0, .int .i64 0] 39)).alloc (.cells #[.int .i64 0, .int .i64 0, .int .i64 0, .int .i64 0] 28)) = Z := ⟨_, rfl⟩
  have k1 : Below w.heap.size w w1 := by rw [← hw1]; exact ((((((Below.refl _ _).alloc (Nat.le_refl _) _).alloc (by simp) _).alloc (by simp; omega) _).alloc (by simp; omega) _).alloc (by simp; omega) _)
  have z1 : Z + 1 + 1 + 1 + 1 < w1.heap.size := by rw [← hw1, ← hZ]; simp
  have y1 : w.heap.size = Z := hZ
  have gb_1c0 : w1.cell? ⟨Z, 0, none⟩ = some (.int .i64 5) := by rw [← hw1, ← hZ]; simp [go_sem]
  have gb_1c1 : w1.cell? ⟨Z, 1, none⟩ = some (.int .i64 5) := by rw [← hw1, ← hZ]; simp [go_sem]
  have gb_1c2 : w1.cell? ⟨Z, 2, none⟩ = some (.int .i64 100) := by rw [← hw1, ← hZ]; simp [go_sem]
  have gb_1c3 : w1.cell? ⟨Z, 3, none⟩ = some (.slice L 5 lc) := by rw [← hw1, ← hZ]; simp [go_sem]
  have fb_1c0 : w1.cell? ⟨Z + 1, 0, none⟩ = some (.slice none 0 0) := by rw [← hw1, ← hZ]; simp [go_sem]
  have fb_1c1 : w1.cell? ⟨Z + 1, 1, none⟩ = some (.slice none 0 0) := by rw [← hw1, ← hZ]; simp [go_sem]
  have db_1c0 : w1.cell? ⟨Z + 1 + 1, 0, none⟩ = some (.int .i64 20) := by rw [← hw1, ← hZ]; simp [go_sem]
  have db_1c1 : w1.cell? ⟨Z + 1 + 1, 1, none⟩ = some (.int .i64 20) := by rw [← hw1, ← hZ]; simp [go_sem]
  have db_1c2 : w1.cell? ⟨Z + 1 + 1, 2, none⟩ = some (.int .i64 10) := by rw [← hw1, ← hZ]; simp [go_sem]
  have db_1c3 : w1.cell? ⟨Z + 1 + 1, 3, none⟩ = some (.int .i64 20) := by rw [← hw1, ← hZ]; simp [go_sem]
  have db_1c4 : w1.cell? ⟨Z + 1 + 1, 4, none⟩ = some (.bool false) := by rw [← hw1, ← hZ]; simp [go_sem]
  have cb_1c0 : w1.cell? ⟨Z + 1 + 1 + 1, 0, none⟩ = some (.int .i64 0) := by rw [← hw1, ← hZ]; simp [go_sem]
  have cb_1c1 : w1.cell? ⟨Z + 1 + 1 + 1, 1, none⟩ = some (.int .i64 0) := by rw [← hw1, ← hZ]; simp [go_sem]
  have res_1c0 : w1.cell? ⟨Z + 1 + 1 + 1 + 1, 0, none⟩ = some (.int .i64 0) := by rw [← hw1, ← hZ]; simp [go_sem]
  have res_1c1 : w1.cell? ⟨Z + 1 + 1 + 1 + 1, 1, none⟩ = some (.int .i64 0) := by rw [← hw1, ← hZ]; simp [go_sem]
  have res_1c2 : w1.cell? ⟨Z + 1 + 1 + 1 + 1, 2, none⟩ = some (.int .i64 0) := by rw [← hw1, ← hZ]; simp [go_sem]
  have res_1c3 : w1.cell? ⟨Z + 1 + 1 + 1 + 1, 3, none⟩ = some (.int .i64 0) := by rw [← hw1, ← hZ]; simp [go_sem]
  have res_1f0 : w1.frozen? ⟨Z + 1 + 1 + 1 + 1, 0, none⟩ = false := by rw [← hw1, ← hZ]; simp [go_sem]
  have res_1f1 : w1.frozen? ⟨Z + 1 + 1 + 1 + 1, 1, none⟩ = false := by rw [← hw1, ← hZ]; simp [go_sem]
  have res_1f2 : w1.frozen? ⟨Z + 1 + 1 + 1 + 1, 2, none⟩ = false := by rw [← hw1, ← hZ]; simp [go_sem]
  have res_1f3 : w1.frozen? ⟨Z + 1 + 1 + 1 + 1, 3, none⟩ = false := by rw [← hw1, ← hZ]; simp [go_sem]
  (try rw [hw1]); (try rw [hZ])
  clear hw1 hZ
  have S1 := k1.size
  have HB_1 := Lib.hid (HB_0.out.below k1)
  have BB1 := Lib.hid (BB0.out.trans (k1.mono BB0.out.size))
  clear k1 HB_0 BB0
  go_upto_region 2 with fail
  obtain ⟨P, hP⟩ : ∃ Z, w1.heap.size = Z := ⟨_, rfl⟩
  obtain ⟨w2, hw2⟩ : ∃ Z, (w1.alloc (.cells #[.int .i64 5, .int .i64 5, .int .i64 100, .slice L 5 lc, .slice none 0 0, .slice none 0 0, .int .i64 20, .int .i64 20, .int .i64 10, .int .i64 20, .bool false] 165)) = Z := ⟨_, rfl⟩
  have k2 : Below w1.heap.size w1 w2 := by rw [← hw2]; exact ((Below.refl _ _).alloc (Nat.le_refl _) _)
  have z2 : P < w2.heap.size := by rw [← hw2, ← hP]; simp
  have y2 : w1.heap.size = P := hP
  have sea_2c0 : w2.cell? ⟨P, 0, none⟩ = some (.int .i64 5) := by rw [← hw2, ← hP]; simp [go_sem]
  have sea_2c1 : w2.cell? ⟨P, 1, none⟩ = some (.int .i64 5) := by rw [← hw2, ← hP]; simp [go_sem]
  have sea_2c2 : w2.cell? ⟨P, 2, none⟩ = some (.int .i64 100) := by rw [← hw2, ← hP]; simp [go_sem]
  have sea_2c3 : w2.cell? ⟨P, 3, none⟩ = some (.slice L 5 lc) := by rw [← hw2, ← hP]; simp [go_sem]
  have sea_2c4 : w2.cell? ⟨P, 4, none⟩ = some (.slice none 0 0) := by rw [← hw2, ← hP]; simp [go_sem]
  have sea_2c5 : w2.cell? ⟨P, 5, none⟩ = some (.slice none 0 0) := by rw [← hw2, ← hP]; simp [go_sem]
  have sea_2c6 : w2.cell? ⟨P, 6, none⟩ = some (.int .i64 20) := by rw [← hw2, ← hP]; simp [go_sem]
  have sea_2c7 : w2.cell? ⟨P, 7, none⟩ = some (.int .i64 20) := by rw [← hw2, ← hP]; simp [go_sem]
  have sea_2c8 : w2.cell? ⟨P, 8, none⟩ = some (.int .i64 10) := by rw [← hw2, ← hP]; simp [go_sem]
  have sea_2c9 : w2.cell? ⟨P, 9, none⟩ = some (.int .i64 20) := by rw [← hw2, ← hP]; simp [go_sem]
  have sea_2c10 : w2.cell? ⟨P, 10, none⟩ = some (.bool false) := by rw [← hw2, ← hP]; simp [go_sem]
  (try rw [hw2]); (try rw [hP])
  clear hw2 hP
  have S2 := k2.size
  have gb_2c0 := (k2.cell (p := ⟨Z, 0, none⟩) (by show Z < _; omega)).trans gb_1c0
  have gb_2c1 := (k2.cell (p := ⟨Z, 1, none⟩) (by show Z < _; omega)).trans gb_1c1
  have gb_2c2 := (k2.cell (p := ⟨Z, 2, none⟩) (by show Z < _; omega)).trans gb_1c2
  have gb_2c3 := (k2.cell (p := ⟨Z, 3, none⟩) (by show Z < _; omega)).trans gb_1c3
  have fb_2c0 := (k2.cell (p := ⟨Z + 1, 0, none⟩) (by show Z + 1 < _; omega)).trans fb_1c0
  have fb_2c1 := (k2.cell (p := ⟨Z + 1, 1, none⟩) (by show Z + 1 < _; omega)).trans fb_1c1
  have db_2c0 := (k2.cell (p := ⟨Z + 1 + 1, 0, none⟩) (by show Z + 1 + 1 < _; omega)).trans db_1c0
  have db_2c1 := (k2.cell (p := ⟨Z + 1 + 1, 1, none⟩) (by show Z + 1 + 1 < _; omega)).trans db_1c1
  have db_2c2 := (k2.cell (p := ⟨Z + 1 + 1, 2, none⟩) (by show Z + 1 + 1 < _; omega)).trans db_1c2
  have db_2c3 := (k2.cell (p := ⟨Z + 1 + 1, 3, none⟩) (by show Z + 1 + 1 < _; omega)).trans db_1c3
  have db_2c4 := (k2.cell (p := ⟨Z + 1 + 1, 4, none⟩) (by show Z + 1 + 1 < _; omega)).trans db_1c4
  have cb_2c0 := (k2.cell (p := ⟨Z + 1 + 1 + 1, 0, none⟩) (by show Z + 1 + 1 + 1 < _; omega)).trans cb_1c0
  have cb_2c1 := (k2.cell (p := ⟨Z + 1 + 1 + 1, 1, none⟩) (by show Z + 1 + 1 + 1 < _; omega)).trans cb_1c1
  have res_2c0 := (k2.cell (p := ⟨Z + 1 + 1 + 1 + 1, 0, none⟩) (by show Z + 1 + 1 + 1 + 1 < _; omega)).trans res_1c0
  have res_2c1 := (k2.cell (p := ⟨Z + 1 + 1 + 1 + 1, 1, none⟩) (by show Z + 1 + 1 + 1 + 1 < _; omega)).trans res_1c1
  have res_2c2 := (k2.cell (p := ⟨Z + 1 + 1 + 1 + 1, 2, none⟩) (by show Z + 1 + 1 + 1 + 1 < _; omega)).trans res_1c2
  have res_2c3 := (k2.cell (p := ⟨Z + 1 + 1 + 1 + 1, 3, none⟩) (by show Z + 1 + 1 + 1 + 1 < _; omega)).trans res_1c3
  have res_2f0 := (k2.frozen (p := ⟨Z + 1 + 1 + 1 + 1, 0, none⟩) (by show Z + 1 + 1 + 1 + 1 < _; omega)).trans res_1f0
  have res_2f1 := (k2.frozen (p := ⟨Z + 1 + 1 + 1 + 1, 1, none⟩) (by show Z + 1 + 1 + 1 + 1 < _; omega)).trans res_1f1
  have res_2f2 := (k2.frozen (p := ⟨Z + 1 + 1 + 1 + 1, 2, none⟩) (by show Z + 1 + 1 + 1 + 1 < _; omega)).trans res_1f2
  have res_2f3 := (k2.frozen (p := ⟨Z + 1 + 1 + 1 + 1, 3, none⟩) (by show Z + 1 + 1 + 1 + 1 < _; omega)).trans res_1f3
  have HB_2 := Lib.hid (HB_1.out.below k2)
  have BB2 := Lib.hid (BB1.out.trans (k2.mono BB1.out.size))
  clear k2 gb_1c0 gb_1c1 gb_1c2 gb_1c3 fb_1c0 fb_1c1 db_1c0 db_1c1 db_1c2 db_1c3 db_1c4 cb_1c0 cb_1c1 res_1c0 res_1c1 res_1c2 res_1c3 res_1f0 res_1f1 res_1f2 res_1f3 HB_1 BB1
  go_wp2_with fail
  refine (right_nil L lc 1 _ HB_2.out (by decide)).mono ?_
  rintro e w3 ⟨rfl, hb3⟩
  have k3 : Below w2.heap.size w2 w3 := hb3
  clear hb3
  have S3 := k3.size
  have gb_3c0 := (k3.cell (p := ⟨Z, 0, none⟩) (by show Z < _; omega)).trans gb_2c0
  have gb_3c1 := (k3.cell (p := ⟨Z, 1, none⟩) (by show Z < _; omega)).trans gb_2c1
  have gb_3c2 := (k3.cell (p := ⟨Z, 2, none⟩) (by show Z < _; omega)).trans gb_2c2
  have gb_3c3 := (k3.cell (p := ⟨Z, 3, none⟩) (by show Z < _; omega)).trans gb_2c3
  have fb_3c0 := (k3.cell (p := ⟨Z + 1, 0, none⟩) (by show Z + 1 < _; omega)).trans fb_2c0
  have fb_3c1 := (k3.cell (p := ⟨Z + 1, 1, none⟩) (by show Z + 1 < _; omega)).trans fb_2c1
  have db_3c0 := (k3.cell (p := ⟨Z + 1 + 1, 0, none⟩) (by show Z + 1 + 1 < _; omega)).trans db_2c0
  have db_3c1 := (k3.cell (p := ⟨Z + 1 + 1, 1, none⟩) (by show Z + 1 + 1 < _; omega)).trans db_2c1
  have db_3c2 := (k3.cell (p := ⟨Z + 1 + 1, 2, none⟩) (by show Z + 1 + 1 < _; omega)).trans db_2c2
  have db_3c3 := (k3.cell (p := ⟨Z + 1 + 1, 3, none⟩) (by show Z + 1 + 1 < _; omega)).trans db_2c3
  have db_3c4 := (k3.cell (p := ⟨Z + 1 + 1, 4, none⟩) (by show Z + 1 + 1 < _; omega)).trans db_2c4
  have cb_3c0 := (k3.cell (p := ⟨Z + 1 + 1 + 1, 0, none⟩) (by show Z + 1 + 1 + 1 < _; omega)).trans cb_2c0
  have cb_3c1 := (k3.cell (p := ⟨Z + 1 + 1 + 1, 1, none⟩) (by show Z + 1 + 1 + 1 < _; omega)).trans cb_2c1
  have res_3c0 := (k3.cell (p := ⟨Z + 1 + 1 + 1 + 1, 0, none⟩) (by show Z + 1 + 1 + 1 + 1 < _; omega)).trans res_2c0
  have res_3c1 := (k3.cell (p := ⟨Z + 1 + 1 + 1 + 1, 1, none⟩) (by show Z + 1 + 1 + 1 + 1 < _; omega)).trans res_2c1
  have res_3c2 := (k3.cell (p := ⟨Z + 1 + 1 + 1 + 1, 2, none⟩) (by show Z + 1 + 1 + 1 + 1 < _; omega)).trans res_2c2
  have res_3c3 := (k3.cell (p := ⟨Z + 1 + 1 + 1 + 1, 3, none⟩) (by show Z + 1 + 1 + 1 + 1 < _; omega)).trans res_2c3
  have res_3f0 := (k3.frozen (p := ⟨Z + 1 + 1 + 1 + 1, 0, none⟩) (by show Z + 1 + 1 + 1 + 1 < _; omega)).trans res_2f0
  have res_3f1 := (k3.frozen (p := ⟨Z + 1 + 1 + 1 + 1, 1, none⟩) (by show Z + 1 + 1 + 1 + 1 < _; omega)).trans res_2f1
  have res_3f2 := (k3.frozen (p := ⟨Z + 1 + 1 + 1 + 1, 2, none⟩) (by show Z + 1 + 1 + 1 + 1 < _; omega)).trans res_2f2
  have res_3f3 := (k3.frozen (p := ⟨Z + 1 + 1 + 1 + 1, 3, none⟩) (by show Z + 1 + 1 + 1 + 1 < _; omega)).trans res_2f3
  have sea_3c0 := (k3.cell (p := ⟨P, 0, none⟩) (by show P < _; omega)).trans sea_2c0
  have sea_3c1 := (k3.cell (p := ⟨P, 1, none⟩) (by show P < _; omega)).trans sea_2c1
  have sea_3c2 := (k3.cell (p := ⟨P, 2, none⟩) (by show P < _; omega)).trans sea_2c2
  have sea_3c3 := (k3.cell (p := ⟨P, 3, none⟩) (by show P < _; omega)).trans sea_2c3
  have sea_3c4 := (k3.cell (p := ⟨P, 4, none⟩) (by show P < _; omega)).trans sea_2c4
  have sea_3c5 := (k3.cell (p := ⟨P, 5, none⟩) (by show P < _; omega)).trans sea_2c5
  have sea_3c6 := (k3.cell (p := ⟨P, 6, none⟩) (by show P < _; omega)).trans sea_2c6
  have sea_3c7 := (k3.cell (p := ⟨P, 7, none⟩) (by show P < _; omega)).trans sea_2c7
  have sea_3c8 := (k3.cell (p := ⟨P, 8, none⟩) (by show P < _; omega)).trans sea_2c8
  have sea_3c9 := (k3.cell (p := ⟨P, 9, none⟩) (by show P < _; omega)).trans sea_2c9
  have sea_3c10 := (k3.cell (p := ⟨P, 10, none⟩) (by show P < _; omega)).trans sea_2c10
  have HB_3 := Lib.hid (HB_2.out.below k3)
  have BB3 := Lib.hid (BB2.out.trans (k3.mono BB2.out.size))
  clear k3 gb_2c0 gb_2c1 gb_2c2 gb_2c3 fb_2c0 fb_2c1 db_2c0 db_2c1 db_2c2 db_2c3 db_2c4 cb_2c0 cb_2c1 res_2c0 res_2c1 res_2c2 res_2c3 res_2f0 res_2f1 res_2f2 res_2f3 sea_2c0 sea_2c1 sea_2c2 sea_2c3 sea_2c4 sea_2c5 sea_2c6 sea_2c7 sea_2c8 sea_2c9 sea_2c10 HB_2 BB2
  go_wp2_with fail
  refine (within_dn _ _ _ _).mono ?_
  rintro e wz ⟨rfl, rfl⟩
  rw [show inB 0 0 4 = true by decide]
  go_wp2_with fail
  refine (within_dn _ _ _ _).mono ?_
  rintro e wz ⟨rfl, rfl⟩
  rw [show inB 0 0 4 = true by decide]
  go_wp2_with fail
  refine (within_dn _ _ _ _).mono ?_
  rintro e wz ⟨rfl, rfl⟩
  rw [show inB 0 0 1 = true by decide]
  go_wp2_with fail
  refine (within_dn _ _ _ _).mono ?_
  rintro e wz ⟨rfl, rfl⟩
  rw [show inB 0 0 1073741824 = true by decide]
  go_wp2_with fail
  refine (push_nil 0 0 0 0 1 L lc _).mono ?_
  rintro e w4 ⟨rfl, hb4⟩
  have k4 : Below w3.heap.size w3 w4 := hb4
  clear hb4
  have S4 := k4.size
  have gb_4c0 := (k4.cell (p := ⟨Z, 0, none⟩) (by show Z < _; omega)).trans gb_3c0
  have gb_4c1 := (k4.cell (p := ⟨Z, 1, none⟩) (by show Z < _; omega)).trans gb_3c1
  have gb_4c2 := (k4.cell (p := ⟨Z, 2, none⟩) (by show Z < _; omega)).trans gb_3c2
  have gb_4c3 := (k4.cell (p := ⟨Z, 3, none⟩) (by show Z < _; omega)).trans gb_3c3
  have fb_4c0 := (k4.cell (p := ⟨Z + 1, 0, none⟩) (by show Z + 1 < _; omega)).trans fb_3c0
  have fb_4c1 := (k4.cell (p := ⟨Z + 1, 1, none⟩) (by show Z + 1 < _; omega)).trans fb_3c1
  have db_4c0 := (k4.cell (p := ⟨Z + 1 + 1, 0, none⟩) (by show Z + 1 + 1 < _; omega)).trans db_3c0
  have db_4c1 := (k4.cell (p := ⟨Z + 1 + 1, 1, none⟩) (by show Z + 1 + 1 < _; omega)).trans db_3c1
  have db_4c2 := (k4.cell (p := ⟨Z + 1 + 1, 2, none⟩) (by show Z + 1 + 1 < _; omega)).trans db_3c2
  have db_4c3 := (k4.cell (p := ⟨Z + 1 + 1, 3, none⟩) (by show Z + 1 + 1 < _; omega)).trans db_3c3
  have db_4c4 := (k4.cell (p := ⟨Z + 1 + 1, 4, none⟩) (by show Z + 1 + 1 < _; omega)).trans db_3c4
  have cb_4c0 := (k4.cell (p := ⟨Z + 1 + 1 + 1, 0, none⟩) (by show Z + 1 + 1 + 1 < _; omega)).trans cb_3c0
  have cb_4c1 := (k4.cell (p := ⟨Z + 1 + 1 + 1, 1, none⟩) (by show Z + 1 + 1 + 1 < _; omega)).trans cb_3c1
  have res_4c0 := (k4.cell (p := ⟨Z + 1 + 1 + 1 + 1, 0, none⟩) (by show Z + 1 + 1 + 1 + 1 < _; omega)).trans res_3c0
  have res_4c1 := (k4.cell (p := ⟨Z + 1 + 1 + 1 + 1, 1, none⟩) (by show Z + 1 + 1 + 1 + 1 < _; omega)).trans res_3c1
  have res_4c2 := (k4.cell (p := ⟨Z + 1 + 1 + 1 + 1, 2, none⟩) (by show Z + 1 + 1 + 1 + 1 < _; omega)).trans res_3c2
  have res_4c3 := (k4.cell (p := ⟨Z + 1 + 1 + 1 + 1, 3, none⟩) (by show Z + 1 + 1 + 1 + 1 < _; omega)).trans res_3c3
  have res_4f0 := (k4.frozen (p := ⟨Z + 1 + 1 + 1 + 1, 0, none⟩) (by show Z + 1 + 1 + 1 + 1 < _; omega)).trans res_3f0
  have res_4f1 := (k4.frozen (p := ⟨Z + 1 + 1 + 1 + 1, 1, none⟩) (by show Z + 1 + 1 + 1 + 1 < _; omega)).trans res_3f1
  have res_4f2 := (k4.frozen (p := ⟨Z + 1 + 1 + 1 + 1, 2, none⟩) (by show Z + 1 + 1 + 1 + 1 < _; omega)).trans res_3f2
  have res_4f3 := (k4.frozen (p := ⟨Z + 1 + 1 + 1 + 1, 3, none⟩) (by show Z + 1 + 1 + 1 + 1 < _; omega)).trans res_3f3
  have sea_4c0 := (k4.cell (p := ⟨P, 0, none⟩) (by show P < _; omega)).trans sea_3c0
  have sea_4c1 := (k4.cell (p := ⟨P, 1, none⟩) (by show P < _; omega)).trans sea_3c1
  have sea_4c2 := (k4.cell (p := ⟨P, 2, none⟩) (by show P < _; omega)).trans sea_3c2
  have sea_4c3 := (k4.cell (p := ⟨P, 3, none⟩) (by show P < _; omega)).trans sea_3c3
  have sea_4c4 := (k4.cell (p := ⟨P, 4, none⟩) (by show P < _; omega)).trans sea_3c4
  have sea_4c5 := (k4.cell (p := ⟨P, 5, none⟩) (by show P < _; omega)).trans sea_3c5
  have sea_4c6 := (k4.cell (p := ⟨P, 6, none⟩) (by show P < _; omega)).trans sea_3c6
  have sea_4c7 := (k4.cell (p := ⟨P, 7, none⟩) (by show P < _; omega)).trans sea_3c7
  have sea_4c8 := (k4.cell (p := ⟨P, 8, none⟩) (by show P < _; omega)).trans sea_3c8
  have sea_4c9 := (k4.cell (p := ⟨P, 9, none⟩) (by show P < _; omega)).trans sea_3c9
  have sea_4c10 := (k4.cell (p := ⟨P, 10, none⟩) (by show P < _; omega)).trans sea_3c10
  have HB_4 := Lib.hid (HB_3.out.below k4)
  have BB4 := Lib.hid (BB3.out.trans (k4.mono BB3.out.size))
  clear k4 gb_3c0 gb_3c1 gb_3c2 gb_3c3 fb_3c0 fb_3c1 db_3c0 db_3c1 db_3c2 db_3c3 db_3c4 cb_3c0 cb_3c1 res_3c0 res_3c1 res_3c2 res_3c3 res_3f0 res_3f1 res_3f2 res_3f3 sea_3c0 sea_3c1 sea_3c2 sea_3c3 sea_3c4 sea_3c5 sea_3c6 sea_3c7 sea_3c8 sea_3c9 sea_3c10 HB_3 BB3
  clear gb_4c0 gb_4c1 gb_4c2 gb_4c3
  clear fb_4c0 fb_4c1
  clear db_4c0 db_4c1 db_4c2 db_4c3 db_4c4
  clear cb_4c0 cb_4c1
  clear sea_4c0 sea_4c1 sea_4c2 sea_4c3 sea_4c4 sea_4c5 sea_4c6 sea_4c7 sea_4c8 sea_4c9 sea_4c10
  go_upto_region 5 with fail
  obtain ⟨Q, hQ⟩ : ∃ Z, w4.heap.size = Z := ⟨_, rfl⟩
  obtain ⟨w5, hw5⟩ : ∃ Z, (w4.alloc (.cells #[.int .i64 0, .int .i64 0, .int .i64 0, .int .i64 0] 28)) = Z := ⟨_, rfl⟩
  have k5 : Below w4.heap.size w4 w5 := by rw [← hw5]; exact ((Below.refl _ _).alloc (Nat.le_refl _) _)
  have z5 : Q < w5.heap.size := by rw [← hw5, ← hQ]; simp
  have y5 : w4.heap.size = Q := hQ
  have pp_5c0 : w5.cell? ⟨Q, 0, none⟩ = some (.int .i64 0) := by rw [← hw5, ← hQ]; simp [go_sem]
  have pp_5c1 : w5.cell? ⟨Q, 1, none⟩ = some (.int .i64 0) := by rw [← hw5, ← hQ]; simp [go_sem]
  have pp_5c2 : w5.cell? ⟨Q, 2, none⟩ = some (.int .i64 0) := by rw [← hw5, ← hQ]; simp [go_sem]
  have pp_5c3 : w5.cell? ⟨Q, 3, none⟩ = some (.int .i64 0) := by rw [← hw5, ← hQ]; simp [go_sem]
  (try rw [hw5]); (try rw [hQ])
  clear hw5 hQ
  have S5 := k5.size
  have res_5c0 := (k5.cell (p := ⟨Z + 1 + 1 + 1 + 1, 0, none⟩) (by show Z + 1 + 1 + 1 + 1 < _; omega)).trans res_4c0
  have res_5c1 := (k5.cell (p := ⟨Z + 1 + 1 + 1 + 1, 1, none⟩) (by show Z + 1 + 1 + 1 + 1 < _; omega)).trans res_4c1
  have res_5c2 := (k5.cell (p := ⟨Z + 1 + 1 + 1 + 1, 2, none⟩) (by show Z + 1 + 1 + 1 + 1 < _; omega)).trans res_4c2
  have res_5c3 := (k5.cell (p := ⟨Z + 1 + 1 + 1 + 1, 3, none⟩) (by show Z + 1 + 1 + 1 + 1 < _; omega)).trans res_4c3
  have res_5f0 := (k5.frozen (p := ⟨Z + 1 + 1 + 1 + 1, 0, none⟩) (by show Z + 1 + 1 + 1 + 1 < _; omega)).trans res_4f0
  have res_5f1 := (k5.frozen (p := ⟨Z + 1 + 1 + 1 + 1, 1, none⟩) (by show Z + 1 + 1 + 1 + 1 < _; omega)).trans res_4f1
  have res_5f2 := (k5.frozen (p := ⟨Z + 1 + 1 + 1 + 1, 2, none⟩) (by show Z + 1 + 1 + 1 + 1 < _; omega)).trans res_4f2
  have res_5f3 := (k5.frozen (p := ⟨Z + 1 + 1 + 1 + 1, 3, none⟩) (by show Z + 1 + 1 + 1 + 1 < _; omega)).trans res_4f3
  have HB_5 := Lib.hid (HB_4.out.below k5)
  have BB5 := Lib.hid (BB4.out.trans (k5.mono BB4.out.size))
  clear k5 res_4c0 res_4c1 res_4c2 res_4c3 res_4f0 res_4f1 res_4f2 res_4f3 HB_4 BB4
  go_wp2_with fail
  refine bodyPost_ret (v := .tuple #[.agg #[.int .i64 0, .int .i64 0, .int .i64 0, .int .i64 0], .int .i64 7]) (by simp [results, Try.results44, go_sem, res_5c0, res_5c1, res_5c2, res_5c3]) rfl ⟨rfl, ?_⟩
  exact ((((BB5.out.setCell (p := ⟨Z + 1 + 1 + 1 + 1, 0, none⟩) (by show _ ≤ Z + 1 + 1 + 1 + 1; omega) _).setCell (p := ⟨Z + 1 + 1 + 1 + 1, 1, none⟩) (by show _ ≤ Z + 1 + 1 + 1 + 1; omega) _).setCell (p := ⟨Z + 1 + 1 + 1 + 1, 2, none⟩) (by show _ ≤ Z + 1 + 1 + 1 + 1; omega) _).setCell (p := ⟨Z + 1 + 1 + 1 + 1, 3, none⟩) (by show _ ≤ Z + 1 + 1 + 1 + 1; omega) _)
end Go.Proofs.Ytnbdnnbeiohmgaa
