/- drift: push. -/
import Derived.Test.YtnbdnnbeiohmgaaDnE
import Derived.Test.YtnbdnnbeiohmgaaDnH
namespace Go.Proofs.Ytnbdnnbeiohmgaa
open Go.RowKit Go.Shelf Go.Lib
attribute [local go_sem] Oper.semAt_some

theorem ar_a (w : World) : Calls Try.prog 134 #[.agg #[.int .i64 0, .int .i64 0], .agg #[.int .i64 1000, .int .i64 1000]] w fun e w' => e = .returned (.agg #[.int .i64 0, .int .i64 0]) ∧ Below w.heap.size w w' := by
  have h := times_dn (0) (0) (1000) (1000) w
  rw [show (min (wrap64 (0 * 1000)) (wrap64 (0 * 1000)) : Int) = 0 by decide +kernel, show (max (wrap64 (0 * 1000)) (wrap64 (0 * 1000)) : Int) = 0 by decide +kernel] at h
  exact h
theorem ar_b (w : World) : Calls Try.prog 134 #[.agg #[.int .i64 5000, .int .i64 5000], .agg #[.int .i64 20, .int .i64 20]] w fun e w' => e = .returned (.agg #[.int .i64 100000, .int .i64 100000]) ∧ Below w.heap.size w w' := by
  have h := times_dn (5000) (5000) (20) (20) w
  rw [show (min (wrap64 (5000 * 20)) (wrap64 (5000 * 20)) : Int) = 100000 by decide +kernel, show (max (wrap64 (5000 * 20)) (wrap64 (5000 * 20)) : Int) = 100000 by decide +kernel] at h
  exact h
theorem ar_c (w : World) : Calls Try.prog 135 #[.agg #[.int .i64 0, .int .i64 0], .agg #[.int .i64 100000, .int .i64 100000]] w fun e w' => e = .returned (.agg #[.int .i64 100000, .int .i64 100000]) ∧ Below w.heap.size w w' := by
  have h := plus_dn (0) (0) (100000) (100000) w
  rw [show (wrap64 (0 + 100000) : Int) = 100000 by decide +kernel] at h
  exact h
theorem ar_d (w : World) : Calls Try.prog 134 #[.agg #[.int .i64 0, .int .i64 0], .agg #[.int .i64 20, .int .i64 20]] w fun e w' => e = .returned (.agg #[.int .i64 0, .int .i64 0]) ∧ Below w.heap.size w w' := by
  have h := times_dn (0) (0) (20) (20) w
  rw [show (min (wrap64 (0 * 20)) (wrap64 (0 * 20)) : Int) = 0 by decide +kernel, show (max (wrap64 (0 * 20)) (wrap64 (0 * 20)) : Int) = 0 by decide +kernel] at h
  exact h
theorem ar_e (w : World) : Calls Try.prog 135 #[.agg #[.int .i64 0, .int .i64 0], .agg #[.int .i64 0, .int .i64 0]] w fun e w' => e = .returned (.agg #[.int .i64 0, .int .i64 0]) ∧ Below w.heap.size w w' := by
  have h := plus_dn (0) (0) (0) (0) w
  rw [show (wrap64 (0 + 0) : Int) = 0 by decide +kernel] at h
  exact h
theorem ar_f (w : World) : Calls Try.prog 134 #[.agg #[.int .i64 0, .int .i64 0], .agg #[.int .i64 10, .int .i64 20]] w fun e w' => e = .returned (.agg #[.int .i64 0, .int .i64 0]) ∧ Below w.heap.size w w' := by
  have h := times_dn (0) (0) (10) (20) w
  rw [show (min (wrap64 (0 * 10)) (wrap64 (0 * 20)) : Int) = 0 by decide +kernel, show (max (wrap64 (0 * 10)) (wrap64 (0 * 20)) : Int) = 0 by decide +kernel] at h
  exact h
theorem ar_g (w : World) : Calls Try.prog 136 #[.agg #[.int .i64 100000, .int .i64 100000], .agg #[.int .i64 0, .int .i64 0]] w fun e w' => e = .returned (.agg #[.int .i64 100000, .int .i64 100000]) ∧ Below w.heap.size w w' := by
  have h := minus_dn (100000) (100000) (0) (0) w
  rw [show (wrap64 (100000 - 0) : Int) = 100000 by decide +kernel] at h
  exact h
theorem ar_h (w : World) : Calls Try.prog 134 #[.agg #[.int .i64 5000, .int .i64 5000], .agg #[.int .i64 10, .int .i64 20]] w fun e w' => e = .returned (.agg #[.int .i64 50000, .int .i64 100000]) ∧ Below w.heap.size w w' := by
  have h := times_dn (5000) (5000) (10) (20) w
  rw [show (min (wrap64 (5000 * 10)) (wrap64 (5000 * 20)) : Int) = 50000 by decide +kernel, show (max (wrap64 (5000 * 10)) (wrap64 (5000 * 20)) : Int) = 100000 by decide +kernel] at h
  exact h
theorem ar_i (w : World) : Calls Try.prog 135 #[.agg #[.int .i64 0, .int .i64 0], .agg #[.int .i64 50000, .int .i64 100000]] w fun e w' => e = .returned (.agg #[.int .i64 50000, .int .i64 100000]) ∧ Below w.heap.size w w' := by
  have h := plus_dn (0) (0) (50000) (100000) w
  rw [show (wrap64 (0 + 50000) : Int) = 50000 by decide +kernel, show (wrap64 (0 + 100000) : Int) = 100000 by decide +kernel] at h
  exact h
theorem ar_j (w : World) : Calls Try.prog 135 #[.agg #[.int .i64 100000, .int .i64 100000], .agg #[.int .i64 0, .int .i64 0]] w fun e w' => e = .returned (.agg #[.int .i64 100000, .int .i64 100000]) ∧ Below w.heap.size w w' := by
  have h := plus_dn (100000) (100000) (0) (0) w
  rw [show (wrap64 (100000 + 0) : Int) = 100000 by decide +kernel] at h
  exact h
theorem ar_k (w : World) : Calls Try.prog 136 #[.agg #[.int .i64 0, .int .i64 0], .agg #[.int .i64 50000, .int .i64 100000]] w fun e w' => e = .returned (.agg #[.int .i64 (-100000), .int .i64 (-50000)]) ∧ Below w.heap.size w w' := by
  have h := minus_dn (0) (0) (50000) (100000) w
  rw [show (wrap64 (0 - 100000) : Int) = -100000 by decide +kernel, show (wrap64 (0 - 50000) : Int) = -50000 by decide +kernel] at h
  exact h
theorem fl_a (w : World) : Calls Try.prog 137 #[.int .i64 100000000] w fun e w' => e = .returned (.int .i64 100) ∧ Below w.heap.size w w' := by
  refine (floor_dn (100000000) w (by decide)).mono ?_
  rintro e w' ⟨rfl, rfl⟩
  exact ⟨by rw [show ((100000000 : Int) / 1000000) = 100 by decide], Below.refl _ _⟩
theorem fl_b (w : World) : Calls Try.prog 137 #[.int .i64 50000000] w fun e w' => e = .returned (.int .i64 50) ∧ Below w.heap.size w w' := by
  refine (floor_dn (50000000) w (by decide)).mono ?_
  rintro e w' ⟨rfl, rfl⟩
  exact ⟨by rw [show ((50000000 : Int) / 1000000) = 50 by decide], Below.refl _ _⟩
theorem fl_c (w : World) : Calls Try.prog 137 #[.int .i64 (-100000000)] w fun e w' => e = .returned (.int .i64 (-100)) ∧ Below w.heap.size w w' := by
  refine (floor_dn (-100000000) w (by decide)).mono ?_
  rintro e w' ⟨rfl, rfl⟩
  exact ⟨by rw [show ((-100000000 : Int) / 1000000) = -100 by decide], Below.refl _ _⟩

set_option maxRecDepth 100000 in
set_option maxHeartbeats 16000000 in
theorem push_dn (side lo hi : Int) (hside : (side = 0 ∧ lo = 50 ∧ hi = 100) ∨ (side = 1 ∧ lo = -100 ∧ hi = -50)) (L A : Option Addr) (lc b1 b2 c : Nat) (x y t : Int) (w : World) (hB : Bay w L lc b1 b2 A c) (hin : hasL allB x y = true) (ht : inB t 0 1073741823 = true) :
    Calls Try.prog 97 #[.agg #[.int .i64 5, .int .i64 5, .int .i64 100, .slice L 5 lc, .slice (some ⟨b1, 0, none⟩) 1 1, .slice (some ⟨b2, 0, none⟩) 1 1, .int .i64 20, .int .i64 20, .int .i64 10, .int .i64 20, .bool false], .agg #[.int .i64 x, .int .i64 y], .int .i64 side, .int .i64 t, .int .i64 1000] w fun e w' => e = .returned (.tuple #[.agg #[.int .i64 100, .int .i64 lo, .int .i64 100, .int .i64 hi], .bool true]) ∧ Below w.heap.size w w' := by
  have BB0 := Lib.hid (Below.refl w.heap.size w)
  have HI := Lib.hid hin
  have HT := Lib.hid ht
  have HS := Lib.hid hside
  have HB_0 := Lib.hid hB
  clear hin ht hside hB
  go_enter Try.func97, Try.ntmps97
  go_upto_region 1 with fail
  obtain ⟨Z, hZ⟩ : ∃ Z, w.heap.size = Z := ⟨_, rfl⟩
  obtain ⟨w1, hw1⟩ : ∃ Z, (((w.alloc (.cells #[.int .i64 5, .int .i64 5, .int .i64 100, .slice L 5 lc, .slice (some ⟨b1, 0, none⟩) 1 1, .slice (some ⟨b2, 0, none⟩) 1 1, .int .i64 20, .int .i64 20, .int .i64 10, .int .i64 20, .bool false] 165)).alloc (.cells #[.int .i64 x, .int .i64 y] 39)).alloc (.cells #[.int .i64 0, .int .i64 0, .int .i64 0, .int .i64 0] 28)) = Z := ⟨_, rfl⟩
  have k1 : Below w.heap.size w w1 := by rw [← hw1]; exact ((((Below.refl _ _).alloc (Nat.le_refl _) _).alloc (by simp) _).alloc (by simp; omega) _)
  have z1 : Z + 1 + 1 < w1.heap.size := by rw [← hw1, ← hZ]; simp
  have y1 : w.heap.size = Z := hZ
  have sea_1c0 : w1.cell? ⟨Z, 0, none⟩ = some (.int .i64 5) := by rw [← hw1, ← hZ]; simp [go_sem]
  have sea_1c1 : w1.cell? ⟨Z, 1, none⟩ = some (.int .i64 5) := by rw [← hw1, ← hZ]; simp [go_sem]
  have sea_1c2 : w1.cell? ⟨Z, 2, none⟩ = some (.int .i64 100) := by rw [← hw1, ← hZ]; simp [go_sem]
  have sea_1c3 : w1.cell? ⟨Z, 3, none⟩ = some (.slice L 5 lc) := by rw [← hw1, ← hZ]; simp [go_sem]
  have sea_1c4 : w1.cell? ⟨Z, 4, none⟩ = some (.slice (some ⟨b1, 0, none⟩) 1 1) := by rw [← hw1, ← hZ]; simp [go_sem]
  have sea_1c5 : w1.cell? ⟨Z, 5, none⟩ = some (.slice (some ⟨b2, 0, none⟩) 1 1) := by rw [← hw1, ← hZ]; simp [go_sem]
  have sea_1c6 : w1.cell? ⟨Z, 6, none⟩ = some (.int .i64 20) := by rw [← hw1, ← hZ]; simp [go_sem]
  have sea_1c7 : w1.cell? ⟨Z, 7, none⟩ = some (.int .i64 20) := by rw [← hw1, ← hZ]; simp [go_sem]
  have sea_1c8 : w1.cell? ⟨Z, 8, none⟩ = some (.int .i64 10) := by rw [← hw1, ← hZ]; simp [go_sem]
  have sea_1c9 : w1.cell? ⟨Z, 9, none⟩ = some (.int .i64 20) := by rw [← hw1, ← hZ]; simp [go_sem]
  have sea_1c10 : w1.cell? ⟨Z, 10, none⟩ = some (.bool false) := by rw [← hw1, ← hZ]; simp [go_sem]
  have cel_1c0 : w1.cell? ⟨Z + 1, 0, none⟩ = some (.int .i64 x) := by rw [← hw1, ← hZ]; simp [go_sem]
  have cel_1c1 : w1.cell? ⟨Z + 1, 1, none⟩ = some (.int .i64 y) := by rw [← hw1, ← hZ]; simp [go_sem]
  have res_1c0 : w1.cell? ⟨Z + 1 + 1, 0, none⟩ = some (.int .i64 0) := by rw [← hw1, ← hZ]; simp [go_sem]
  have res_1c1 : w1.cell? ⟨Z + 1 + 1, 1, none⟩ = some (.int .i64 0) := by rw [← hw1, ← hZ]; simp [go_sem]
  have res_1c2 : w1.cell? ⟨Z + 1 + 1, 2, none⟩ = some (.int .i64 0) := by rw [← hw1, ← hZ]; simp [go_sem]
  have res_1c3 : w1.cell? ⟨Z + 1 + 1, 3, none⟩ = some (.int .i64 0) := by rw [← hw1, ← hZ]; simp [go_sem]
  have res_1f0 : w1.frozen? ⟨Z + 1 + 1, 0, none⟩ = false := by rw [← hw1, ← hZ]; simp [go_sem]
  have res_1f1 : w1.frozen? ⟨Z + 1 + 1, 1, none⟩ = false := by rw [← hw1, ← hZ]; simp [go_sem]
  have res_1f2 : w1.frozen? ⟨Z + 1 + 1, 2, none⟩ = false := by rw [← hw1, ← hZ]; simp [go_sem]
  have res_1f3 : w1.frozen? ⟨Z + 1 + 1, 3, none⟩ = false := by rw [← hw1, ← hZ]; simp [go_sem]
  (try rw [hw1]); (try rw [hZ])
  clear hw1 hZ
  have S1 := k1.size
  have HB_1 := Lib.hid (HB_0.out.below k1)
  have BB1 := Lib.hid (BB0.out.trans (k1.mono BB0.out.size))
  clear k1 HB_0 BB0
  go_wp2_with fail
  refine (at_one 0 A b1 c x y t _ HB_1.out.2.1 HI.out HT.out).mono ?_
  rintro e w2 ⟨rfl, hb2⟩
  have k2 : Below w1.heap.size w1 w2 := hb2
  clear hb2
  have S2 := k2.size
  have sea_2c0 := (k2.cell (p := ⟨Z, 0, none⟩) (by show Z < _; omega)).trans sea_1c0
  have sea_2c1 := (k2.cell (p := ⟨Z, 1, none⟩) (by show Z < _; omega)).trans sea_1c1
  have sea_2c2 := (k2.cell (p := ⟨Z, 2, none⟩) (by show Z < _; omega)).trans sea_1c2
  have sea_2c3 := (k2.cell (p := ⟨Z, 3, none⟩) (by show Z < _; omega)).trans sea_1c3
  have sea_2c4 := (k2.cell (p := ⟨Z, 4, none⟩) (by show Z < _; omega)).trans sea_1c4
  have sea_2c5 := (k2.cell (p := ⟨Z, 5, none⟩) (by show Z < _; omega)).trans sea_1c5
  have sea_2c6 := (k2.cell (p := ⟨Z, 6, none⟩) (by show Z < _; omega)).trans sea_1c6
  have sea_2c7 := (k2.cell (p := ⟨Z, 7, none⟩) (by show Z < _; omega)).trans sea_1c7
  have sea_2c8 := (k2.cell (p := ⟨Z, 8, none⟩) (by show Z < _; omega)).trans sea_1c8
  have sea_2c9 := (k2.cell (p := ⟨Z, 9, none⟩) (by show Z < _; omega)).trans sea_1c9
  have sea_2c10 := (k2.cell (p := ⟨Z, 10, none⟩) (by show Z < _; omega)).trans sea_1c10
  have cel_2c0 := (k2.cell (p := ⟨Z + 1, 0, none⟩) (by show Z + 1 < _; omega)).trans cel_1c0
  have cel_2c1 := (k2.cell (p := ⟨Z + 1, 1, none⟩) (by show Z + 1 < _; omega)).trans cel_1c1
  have res_2c0 := (k2.cell (p := ⟨Z + 1 + 1, 0, none⟩) (by show Z + 1 + 1 < _; omega)).trans res_1c0
  have res_2c1 := (k2.cell (p := ⟨Z + 1 + 1, 1, none⟩) (by show Z + 1 + 1 < _; omega)).trans res_1c1
  have res_2c2 := (k2.cell (p := ⟨Z + 1 + 1, 2, none⟩) (by show Z + 1 + 1 < _; omega)).trans res_1c2
  have res_2c3 := (k2.cell (p := ⟨Z + 1 + 1, 3, none⟩) (by show Z + 1 + 1 < _; omega)).trans res_1c3
  have res_2f0 := (k2.frozen (p := ⟨Z + 1 + 1, 0, none⟩) (by show Z + 1 + 1 < _; omega)).trans res_1f0
  have res_2f1 := (k2.frozen (p := ⟨Z + 1 + 1, 1, none⟩) (by show Z + 1 + 1 < _; omega)).trans res_1f1
  have res_2f2 := (k2.frozen (p := ⟨Z + 1 + 1, 2, none⟩) (by show Z + 1 + 1 < _; omega)).trans res_1f2
  have res_2f3 := (k2.frozen (p := ⟨Z + 1 + 1, 3, none⟩) (by show Z + 1 + 1 < _; omega)).trans res_1f3
  have HB_2 := Lib.hid (HB_1.out.below k2)
  have BB2 := Lib.hid (BB1.out.trans (k2.mono BB1.out.size))
  clear k2 sea_1c0 sea_1c1 sea_1c2 sea_1c3 sea_1c4 sea_1c5 sea_1c6 sea_1c7 sea_1c8 sea_1c9 sea_1c10 cel_1c0 cel_1c1 res_1c0 res_1c1 res_1c2 res_1c3 res_1f0 res_1f1 res_1f2 res_1f3 HB_1 BB1
  go_upto_region 2 with fail
  obtain ⟨P, hP⟩ : ∃ Z, w2.heap.size = Z := ⟨_, rfl⟩
  obtain ⟨w3, hw3⟩ : ∃ Z, ((w2.alloc (.cells #[.int .i64 0, .int .i64 0] 203)).alloc (.cells #[.int .i64 0, .int .i64 0] 203)) = Z := ⟨_, rfl⟩
  have k3 : Below w2.heap.size w2 w3 := by rw [← hw3]; exact (((Below.refl _ _).alloc (Nat.le_refl _) _).alloc (by simp) _)
  have z3 : P + 1 < w3.heap.size := by rw [← hw3, ← hP]; simp
  have y3 : w2.heap.size = P := hP
  have u_3c0 : w3.cell? ⟨P, 0, none⟩ = some (.int .i64 0) := by rw [← hw3, ← hP]; simp [go_sem]
  have u_3c1 : w3.cell? ⟨P, 1, none⟩ = some (.int .i64 0) := by rw [← hw3, ← hP]; simp [go_sem]
  have v_3c0 : w3.cell? ⟨P + 1, 0, none⟩ = some (.int .i64 0) := by rw [← hw3, ← hP]; simp [go_sem]
  have v_3c1 : w3.cell? ⟨P + 1, 1, none⟩ = some (.int .i64 0) := by rw [← hw3, ← hP]; simp [go_sem]
  (try rw [hw3]); (try rw [hP])
  clear hw3 hP
  have S3 := k3.size
  have sea_3c0 := (k3.cell (p := ⟨Z, 0, none⟩) (by show Z < _; omega)).trans sea_2c0
  have sea_3c1 := (k3.cell (p := ⟨Z, 1, none⟩) (by show Z < _; omega)).trans sea_2c1
  have sea_3c2 := (k3.cell (p := ⟨Z, 2, none⟩) (by show Z < _; omega)).trans sea_2c2
  have sea_3c3 := (k3.cell (p := ⟨Z, 3, none⟩) (by show Z < _; omega)).trans sea_2c3
  have sea_3c4 := (k3.cell (p := ⟨Z, 4, none⟩) (by show Z < _; omega)).trans sea_2c4
  have sea_3c5 := (k3.cell (p := ⟨Z, 5, none⟩) (by show Z < _; omega)).trans sea_2c5
  have sea_3c6 := (k3.cell (p := ⟨Z, 6, none⟩) (by show Z < _; omega)).trans sea_2c6
  have sea_3c7 := (k3.cell (p := ⟨Z, 7, none⟩) (by show Z < _; omega)).trans sea_2c7
  have sea_3c8 := (k3.cell (p := ⟨Z, 8, none⟩) (by show Z < _; omega)).trans sea_2c8
  have sea_3c9 := (k3.cell (p := ⟨Z, 9, none⟩) (by show Z < _; omega)).trans sea_2c9
  have sea_3c10 := (k3.cell (p := ⟨Z, 10, none⟩) (by show Z < _; omega)).trans sea_2c10
  have cel_3c0 := (k3.cell (p := ⟨Z + 1, 0, none⟩) (by show Z + 1 < _; omega)).trans cel_2c0
  have cel_3c1 := (k3.cell (p := ⟨Z + 1, 1, none⟩) (by show Z + 1 < _; omega)).trans cel_2c1
  have res_3c0 := (k3.cell (p := ⟨Z + 1 + 1, 0, none⟩) (by show Z + 1 + 1 < _; omega)).trans res_2c0
  have res_3c1 := (k3.cell (p := ⟨Z + 1 + 1, 1, none⟩) (by show Z + 1 + 1 < _; omega)).trans res_2c1
  have res_3c2 := (k3.cell (p := ⟨Z + 1 + 1, 2, none⟩) (by show Z + 1 + 1 < _; omega)).trans res_2c2
  have res_3c3 := (k3.cell (p := ⟨Z + 1 + 1, 3, none⟩) (by show Z + 1 + 1 < _; omega)).trans res_2c3
  have res_3f0 := (k3.frozen (p := ⟨Z + 1 + 1, 0, none⟩) (by show Z + 1 + 1 < _; omega)).trans res_2f0
  have res_3f1 := (k3.frozen (p := ⟨Z + 1 + 1, 1, none⟩) (by show Z + 1 + 1 < _; omega)).trans res_2f1
  have res_3f2 := (k3.frozen (p := ⟨Z + 1 + 1, 2, none⟩) (by show Z + 1 + 1 < _; omega)).trans res_2f2
  have res_3f3 := (k3.frozen (p := ⟨Z + 1 + 1, 3, none⟩) (by show Z + 1 + 1 < _; omega)).trans res_2f3
  have HB_3 := Lib.hid (HB_2.out.below k3)
  have BB3 := Lib.hid (BB2.out.trans (k3.mono BB2.out.size))
  clear k3 sea_2c0 sea_2c1 sea_2c2 sea_2c3 sea_2c4 sea_2c5 sea_2c6 sea_2c7 sea_2c8 sea_2c9 sea_2c10 cel_2c0 cel_2c1 res_2c0 res_2c1 res_2c2 res_2c3 res_2f0 res_2f1 res_2f2 res_2f3 HB_2 BB2
  go_wp2_with fail
  refine (at_one 5000 A b2 c x y t _ HB_3.out.2.2 HI.out HT.out).mono ?_
  rintro e w4 ⟨rfl, hb4⟩
  have k4 : Below w3.heap.size w3 w4 := hb4
  clear hb4
  have S4 := k4.size
  have sea_4c0 := (k4.cell (p := ⟨Z, 0, none⟩) (by show Z < _; omega)).trans sea_3c0
  have sea_4c1 := (k4.cell (p := ⟨Z, 1, none⟩) (by show Z < _; omega)).trans sea_3c1
  have sea_4c2 := (k4.cell (p := ⟨Z, 2, none⟩) (by show Z < _; omega)).trans sea_3c2
  have sea_4c3 := (k4.cell (p := ⟨Z, 3, none⟩) (by show Z < _; omega)).trans sea_3c3
  have sea_4c4 := (k4.cell (p := ⟨Z, 4, none⟩) (by show Z < _; omega)).trans sea_3c4
  have sea_4c5 := (k4.cell (p := ⟨Z, 5, none⟩) (by show Z < _; omega)).trans sea_3c5
  have sea_4c6 := (k4.cell (p := ⟨Z, 6, none⟩) (by show Z < _; omega)).trans sea_3c6
  have sea_4c7 := (k4.cell (p := ⟨Z, 7, none⟩) (by show Z < _; omega)).trans sea_3c7
  have sea_4c8 := (k4.cell (p := ⟨Z, 8, none⟩) (by show Z < _; omega)).trans sea_3c8
  have sea_4c9 := (k4.cell (p := ⟨Z, 9, none⟩) (by show Z < _; omega)).trans sea_3c9
  have sea_4c10 := (k4.cell (p := ⟨Z, 10, none⟩) (by show Z < _; omega)).trans sea_3c10
  have cel_4c0 := (k4.cell (p := ⟨Z + 1, 0, none⟩) (by show Z + 1 < _; omega)).trans cel_3c0
  have cel_4c1 := (k4.cell (p := ⟨Z + 1, 1, none⟩) (by show Z + 1 < _; omega)).trans cel_3c1
  have res_4c0 := (k4.cell (p := ⟨Z + 1 + 1, 0, none⟩) (by show Z + 1 + 1 < _; omega)).trans res_3c0
  have res_4c1 := (k4.cell (p := ⟨Z + 1 + 1, 1, none⟩) (by show Z + 1 + 1 < _; omega)).trans res_3c1
  have res_4c2 := (k4.cell (p := ⟨Z + 1 + 1, 2, none⟩) (by show Z + 1 + 1 < _; omega)).trans res_3c2
  have res_4c3 := (k4.cell (p := ⟨Z + 1 + 1, 3, none⟩) (by show Z + 1 + 1 < _; omega)).trans res_3c3
  have res_4f0 := (k4.frozen (p := ⟨Z + 1 + 1, 0, none⟩) (by show Z + 1 + 1 < _; omega)).trans res_3f0
  have res_4f1 := (k4.frozen (p := ⟨Z + 1 + 1, 1, none⟩) (by show Z + 1 + 1 < _; omega)).trans res_3f1
  have res_4f2 := (k4.frozen (p := ⟨Z + 1 + 1, 2, none⟩) (by show Z + 1 + 1 < _; omega)).trans res_3f2
  have res_4f3 := (k4.frozen (p := ⟨Z + 1 + 1, 3, none⟩) (by show Z + 1 + 1 < _; omega)).trans res_3f3
  have u_4c0 := (k4.cell (p := ⟨P, 0, none⟩) (by show P < _; omega)).trans u_3c0
  have u_4c1 := (k4.cell (p := ⟨P, 1, none⟩) (by show P < _; omega)).trans u_3c1
  have v_4c0 := (k4.cell (p := ⟨P + 1, 0, none⟩) (by show P + 1 < _; omega)).trans v_3c0
  have v_4c1 := (k4.cell (p := ⟨P + 1, 1, none⟩) (by show P + 1 < _; omega)).trans v_3c1
  have HB_4 := Lib.hid (HB_3.out.below k4)
  have BB4 := Lib.hid (BB3.out.trans (k4.mono BB3.out.size))
  clear k4 sea_3c0 sea_3c1 sea_3c2 sea_3c3 sea_3c4 sea_3c5 sea_3c6 sea_3c7 sea_3c8 sea_3c9 sea_3c10 cel_3c0 cel_3c1 res_3c0 res_3c1 res_3c2 res_3c3 res_3f0 res_3f1 res_3f2 res_3f3 u_3c0 u_3c1 v_3c0 v_3c1 HB_3 BB3
  go_upto_region 3 with fail
  obtain ⟨Q, hQ⟩ : ∃ Z, w4.heap.size = Z := ⟨_, rfl⟩
  obtain ⟨w5, hw5⟩ : ∃ Z, ((w4.alloc (.cells #[.int .i64 5000, .int .i64 5000] 203)).alloc (.cells #[.int .i64 0, .int .i64 0] 203)) = Z := ⟨_, rfl⟩
  have k5 : Below w4.heap.size w4 w5 := by rw [← hw5]; exact (((Below.refl _ _).alloc (Nat.le_refl _) _).alloc (by simp) _)
  have z5 : Q + 1 < w5.heap.size := by rw [← hw5, ← hQ]; simp
  have y5 : w4.heap.size = Q := hQ
  have a_5c0 : w5.cell? ⟨Q, 0, none⟩ = some (.int .i64 5000) := by rw [← hw5, ← hQ]; simp [go_sem]
  have a_5c1 : w5.cell? ⟨Q, 1, none⟩ = some (.int .i64 5000) := by rw [← hw5, ← hQ]; simp [go_sem]
  have b_5c0 : w5.cell? ⟨Q + 1, 0, none⟩ = some (.int .i64 0) := by rw [← hw5, ← hQ]; simp [go_sem]
  have b_5c1 : w5.cell? ⟨Q + 1, 1, none⟩ = some (.int .i64 0) := by rw [← hw5, ← hQ]; simp [go_sem]
  (try rw [hw5]); (try rw [hQ])
  clear hw5 hQ
  have S5 := k5.size
  have sea_5c0 := (k5.cell (p := ⟨Z, 0, none⟩) (by show Z < _; omega)).trans sea_4c0
  have sea_5c1 := (k5.cell (p := ⟨Z, 1, none⟩) (by show Z < _; omega)).trans sea_4c1
  have sea_5c2 := (k5.cell (p := ⟨Z, 2, none⟩) (by show Z < _; omega)).trans sea_4c2
  have sea_5c3 := (k5.cell (p := ⟨Z, 3, none⟩) (by show Z < _; omega)).trans sea_4c3
  have sea_5c4 := (k5.cell (p := ⟨Z, 4, none⟩) (by show Z < _; omega)).trans sea_4c4
  have sea_5c5 := (k5.cell (p := ⟨Z, 5, none⟩) (by show Z < _; omega)).trans sea_4c5
  have sea_5c6 := (k5.cell (p := ⟨Z, 6, none⟩) (by show Z < _; omega)).trans sea_4c6
  have sea_5c7 := (k5.cell (p := ⟨Z, 7, none⟩) (by show Z < _; omega)).trans sea_4c7
  have sea_5c8 := (k5.cell (p := ⟨Z, 8, none⟩) (by show Z < _; omega)).trans sea_4c8
  have sea_5c9 := (k5.cell (p := ⟨Z, 9, none⟩) (by show Z < _; omega)).trans sea_4c9
  have sea_5c10 := (k5.cell (p := ⟨Z, 10, none⟩) (by show Z < _; omega)).trans sea_4c10
  have cel_5c0 := (k5.cell (p := ⟨Z + 1, 0, none⟩) (by show Z + 1 < _; omega)).trans cel_4c0
  have cel_5c1 := (k5.cell (p := ⟨Z + 1, 1, none⟩) (by show Z + 1 < _; omega)).trans cel_4c1
  have res_5c0 := (k5.cell (p := ⟨Z + 1 + 1, 0, none⟩) (by show Z + 1 + 1 < _; omega)).trans res_4c0
  have res_5c1 := (k5.cell (p := ⟨Z + 1 + 1, 1, none⟩) (by show Z + 1 + 1 < _; omega)).trans res_4c1
  have res_5c2 := (k5.cell (p := ⟨Z + 1 + 1, 2, none⟩) (by show Z + 1 + 1 < _; omega)).trans res_4c2
  have res_5c3 := (k5.cell (p := ⟨Z + 1 + 1, 3, none⟩) (by show Z + 1 + 1 < _; omega)).trans res_4c3
  have res_5f0 := (k5.frozen (p := ⟨Z + 1 + 1, 0, none⟩) (by show Z + 1 + 1 < _; omega)).trans res_4f0
  have res_5f1 := (k5.frozen (p := ⟨Z + 1 + 1, 1, none⟩) (by show Z + 1 + 1 < _; omega)).trans res_4f1
  have res_5f2 := (k5.frozen (p := ⟨Z + 1 + 1, 2, none⟩) (by show Z + 1 + 1 < _; omega)).trans res_4f2
  have res_5f3 := (k5.frozen (p := ⟨Z + 1 + 1, 3, none⟩) (by show Z + 1 + 1 < _; omega)).trans res_4f3
  have u_5c0 := (k5.cell (p := ⟨P, 0, none⟩) (by show P < _; omega)).trans u_4c0
  have u_5c1 := (k5.cell (p := ⟨P, 1, none⟩) (by show P < _; omega)).trans u_4c1
  have v_5c0 := (k5.cell (p := ⟨P + 1, 0, none⟩) (by show P + 1 < _; omega)).trans v_4c0
  have v_5c1 := (k5.cell (p := ⟨P + 1, 1, none⟩) (by show P + 1 < _; omega)).trans v_4c1
  have HB_5 := Lib.hid (HB_4.out.below k5)
  have BB5 := Lib.hid (BB4.out.trans (k5.mono BB4.out.size))
  clear k5 sea_4c0 sea_4c1 sea_4c2 sea_4c3 sea_4c4 sea_4c5 sea_4c6 sea_4c7 sea_4c8 sea_4c9 sea_4c10 cel_4c0 cel_4c1 res_4c0 res_4c1 res_4c2 res_4c3 res_4f0 res_4f1 res_4f2 res_4f3 u_4c0 u_4c1 v_4c0 v_4c1 HB_4 BB4
  clear HB_5
  clear cel_5c0 cel_5c1
  go_upto_region 5 with fail
  go_cut [18, 19, 20] from 49 to 64 (fun p q r wx => ∃ X1 X2 X3, p = .pointer (some ⟨X1, 0, none⟩) ∧ q = .pointer (some ⟨X2, 0, none⟩) ∧ r = .pointer (some ⟨X3, 0, none⟩) ∧ X1 < wx.heap.size ∧ X2 < wx.heap.size ∧ X3 < wx.heap.size ∧ Below w5.heap.size w5 wx ∧ wx.cell? ⟨X1, 0, none⟩ = some (.int .i64 1000) ∧ wx.cell? ⟨X1, 1, none⟩ = some (.int .i64 1000) ∧ wx.cell? ⟨X2, 0, none⟩ = some (.int .i64 20) ∧ wx.cell? ⟨X2, 1, none⟩ = some (.int .i64 20) ∧ wx.cell? ⟨X3, 0, none⟩ = some (.int .i64 10) ∧ wx.cell? ⟨X3, 1, none⟩ = some (.int .i64 20))
  case first =>
    have yb6_0 : Z < w5.heap.size := by omega
    have Q6 := Lib.hid (show Holds w5 [(Z, 6, .int .i64 20), (Z, 7, .int .i64 20), (Z, 8, .int .i64 10), (Z, 9, .int .i64 20)] from (.cons yb6_0 sea_5c6 (.cons yb6_0 sea_5c7 (.cons yb6_0 sea_5c8 (.cons yb6_0 sea_5c9 (.nil _))))))
    clear yb6_0
    go_region_held3 (fun W' => W'.cell? ⟨Z, 6, none⟩ = some (.int .i64 20) ∧ W'.cell? ⟨Z, 7, none⟩ = some (.int .i64 20) ∧ W'.cell? ⟨Z, 8, none⟩ = some (.int .i64 10) ∧ W'.cell? ⟨Z, 9, none⟩ = some (.int .i64 20))
      (first | with_reducible exact holds4 Q6.out | with_reducible exact holds4 (.drew Q6.out) | with_reducible exact holds4 (.drew (Q6.out.alloc _)) | with_reducible exact holds4 (.drew ((Q6.out.alloc _).alloc _)) | with_reducible exact holds4 (Q6.out.alloc _) | with_reducible exact holds4 (.drew (Q6.out.alloc _)) | with_reducible exact holds4 ((Q6.out.alloc _).alloc _) | with_reducible exact holds4 (.drew ((Q6.out.alloc _).alloc _)) | with_reducible exact holds4 (((Q6.out.alloc _).alloc _).alloc _) | with_reducible exact holds4 (.drew (((Q6.out.alloc _).alloc _).alloc _)) | fail)
      (first | fail)
    rename_i hHeld
    clear hHeld
    clear Q6
    all_goals
      go_wp2_with fail
      go_meet
      go_light
    all_goals exact ⟨_, _, _, rfl, rfl, rfl, by simp <;> omega, by simp <;> omega, by simp <;> omega, belowDrew ((((Below.refl _ _).alloc (Nat.le_refl _) _).alloc (by simp) _).alloc (by simp; omega) _), by simp [go_sem], by simp [go_sem], by simp [go_sem], by simp [go_sem], by simp [go_sem], by simp [go_sem]⟩
  case rest =>
    obtain ⟨w7, hwc⟩ : ∃ z, z = wc := ⟨_, rfl⟩
    subst hwc
    obtain ⟨X1, X2, X3, rfl, rfl, rfl, x1l, x2l, x3l, kc, th_c0, th_c1, dn_c0, dn_c1, cr_c0, cr_c1⟩ := hcut
    have k7 := kc
    clear kc
    have S7 := k7.size
    have sea_7c0 := (k7.cell (p := ⟨Z, 0, none⟩) (by show Z < _; omega)).trans sea_5c0
    have sea_7c1 := (k7.cell (p := ⟨Z, 1, none⟩) (by show Z < _; omega)).trans sea_5c1
    have sea_7c2 := (k7.cell (p := ⟨Z, 2, none⟩) (by show Z < _; omega)).trans sea_5c2
    have sea_7c3 := (k7.cell (p := ⟨Z, 3, none⟩) (by show Z < _; omega)).trans sea_5c3
    have sea_7c4 := (k7.cell (p := ⟨Z, 4, none⟩) (by show Z < _; omega)).trans sea_5c4
    have sea_7c5 := (k7.cell (p := ⟨Z, 5, none⟩) (by show Z < _; omega)).trans sea_5c5
    have sea_7c6 := (k7.cell (p := ⟨Z, 6, none⟩) (by show Z < _; omega)).trans sea_5c6
    have sea_7c7 := (k7.cell (p := ⟨Z, 7, none⟩) (by show Z < _; omega)).trans sea_5c7
    have sea_7c8 := (k7.cell (p := ⟨Z, 8, none⟩) (by show Z < _; omega)).trans sea_5c8
    have sea_7c9 := (k7.cell (p := ⟨Z, 9, none⟩) (by show Z < _; omega)).trans sea_5c9
    have sea_7c10 := (k7.cell (p := ⟨Z, 10, none⟩) (by show Z < _; omega)).trans sea_5c10
    have res_7c0 := (k7.cell (p := ⟨Z + 1 + 1, 0, none⟩) (by show Z + 1 + 1 < _; omega)).trans res_5c0
    have res_7c1 := (k7.cell (p := ⟨Z + 1 + 1, 1, none⟩) (by show Z + 1 + 1 < _; omega)).trans res_5c1
    have res_7c2 := (k7.cell (p := ⟨Z + 1 + 1, 2, none⟩) (by show Z + 1 + 1 < _; omega)).trans res_5c2
    have res_7c3 := (k7.cell (p := ⟨Z + 1 + 1, 3, none⟩) (by show Z + 1 + 1 < _; omega)).trans res_5c3
    have res_7f0 := (k7.frozen (p := ⟨Z + 1 + 1, 0, none⟩) (by show Z + 1 + 1 < _; omega)).trans res_5f0
    have res_7f1 := (k7.frozen (p := ⟨Z + 1 + 1, 1, none⟩) (by show Z + 1 + 1 < _; omega)).trans res_5f1
    have res_7f2 := (k7.frozen (p := ⟨Z + 1 + 1, 2, none⟩) (by show Z + 1 + 1 < _; omega)).trans res_5f2
    have res_7f3 := (k7.frozen (p := ⟨Z + 1 + 1, 3, none⟩) (by show Z + 1 + 1 < _; omega)).trans res_5f3
    have u_7c0 := (k7.cell (p := ⟨P, 0, none⟩) (by show P < _; omega)).trans u_5c0
    have u_7c1 := (k7.cell (p := ⟨P, 1, none⟩) (by show P < _; omega)).trans u_5c1
    have v_7c0 := (k7.cell (p := ⟨P + 1, 0, none⟩) (by show P + 1 < _; omega)).trans v_5c0
    have v_7c1 := (k7.cell (p := ⟨P + 1, 1, none⟩) (by show P + 1 < _; omega)).trans v_5c1
    have a_7c0 := (k7.cell (p := ⟨Q, 0, none⟩) (by show Q < _; omega)).trans a_5c0
    have a_7c1 := (k7.cell (p := ⟨Q, 1, none⟩) (by show Q < _; omega)).trans a_5c1
    have b_7c0 := (k7.cell (p := ⟨Q + 1, 0, none⟩) (by show Q + 1 < _; omega)).trans b_5c0
    have b_7c1 := (k7.cell (p := ⟨Q + 1, 1, none⟩) (by show Q + 1 < _; omega)).trans b_5c1
    have BB7 := Lib.hid (BB5.out.trans (k7.mono BB5.out.size))
    clear k7 sea_5c0 sea_5c1 sea_5c2 sea_5c3 sea_5c4 sea_5c5 sea_5c6 sea_5c7 sea_5c8 sea_5c9 sea_5c10 res_5c0 res_5c1 res_5c2 res_5c3 res_5f0 res_5f1 res_5f2 res_5f3 u_5c0 u_5c1 v_5c0 v_5c1 a_5c0 a_5c1 b_5c0 b_5c1 BB5
    have th_7c0 := th_c0
    have th_7c1 := th_c1
    clear th_c0 th_c1
    have dn_7c0 := dn_c0
    have dn_7c1 := dn_c1
    clear dn_c0 dn_c1
    have cr_7c0 := cr_c0
    have cr_7c1 := cr_c1
    clear cr_c0 cr_c1
    clear sea_7c0 sea_7c1 sea_7c2 sea_7c3 sea_7c4 sea_7c5 sea_7c6 sea_7c7 sea_7c8 sea_7c9 sea_7c10
    go_upto_region 6 with fail
    go_cut [21, 22] from 65 to 78 (fun p q wx => ∃ X1 X2, p = .pointer (some ⟨X1, 0, none⟩) ∧ q = .pointer (some ⟨X2, 0, none⟩) ∧ X1 < wx.heap.size ∧ X2 < wx.heap.size ∧ X1 ≠ X2 ∧ w7.heap.size ≤ X1 ∧ w7.heap.size ≤ X2 ∧ Below w7.heap.size w7 wx ∧ wx.cell? ⟨X1, 0, none⟩ = some (.int .i64 100000) ∧ wx.cell? ⟨X1, 1, none⟩ = some (.int .i64 100000) ∧ wx.cell? ⟨X2, 0, none⟩ = some (.int .i64 0) ∧ wx.cell? ⟨X2, 1, none⟩ = some (.int .i64 0) ∧ wx.frozen? ⟨X1, 0, none⟩ = false ∧ wx.frozen? ⟨X1, 1, none⟩ = false ∧ wx.frozen? ⟨X2, 0, none⟩ = false ∧ wx.frozen? ⟨X2, 1, none⟩ = false)
    case first =>
      have Ha := Lib.hid ar_a
      have Hb := Lib.hid ar_b
      have Hc := Lib.hid ar_c
      have Hd := Lib.hid ar_d
      have He := Lib.hid ar_e
      have yb8_0 : P < w7.heap.size := by omega
      have yb8_1 : P + 1 < w7.heap.size := by omega
      have yb8_2 : Q < w7.heap.size := by omega
      have yb8_3 : Q + 1 < w7.heap.size := by omega
      have yb8_4 : X1 < w7.heap.size := by omega
      have yb8_5 : X2 < w7.heap.size := by omega
      have Q8 := Lib.hid (show Holds w7 [(P, 0, .int .i64 0), (P, 1, .int .i64 0), (P + 1, 0, .int .i64 0), (P + 1, 1, .int .i64 0), (Q, 0, .int .i64 5000), (Q, 1, .int .i64 5000), (Q + 1, 0, .int .i64 0), (Q + 1, 1, .int .i64 0), (X1, 0, .int .i64 1000), (X1, 1, .int .i64 1000), (X2, 0, .int .i64 20), (X2, 1, .int .i64 20)] from (.cons yb8_0 u_7c0 (.cons yb8_0 u_7c1 (.cons yb8_1 v_7c0 (.cons yb8_1 v_7c1 (.cons yb8_2 a_7c0 (.cons yb8_2 a_7c1 (.cons yb8_3 b_7c0 (.cons yb8_3 b_7c1 (.cons yb8_4 th_7c0 (.cons yb8_4 th_7c1 (.cons yb8_5 dn_7c0 (.cons yb8_5 dn_7c1 (.nil _))))))))))))))
      clear yb8_0 yb8_1 yb8_2 yb8_3 yb8_4 yb8_5
      have NB8 := Lib.hid (ZeroB.nil w7)
      have LT8 := Lib.hid Q8.out.lt
      go_region_held3 (fun W' => W'.cell? ⟨P, 0, none⟩ = some (.int .i64 0) ∧ W'.cell? ⟨P, 1, none⟩ = some (.int .i64 0) ∧ W'.cell? ⟨P + 1, 0, none⟩ = some (.int .i64 0) ∧ W'.cell? ⟨P + 1, 1, none⟩ = some (.int .i64 0) ∧ W'.cell? ⟨Q, 0, none⟩ = some (.int .i64 5000) ∧ W'.cell? ⟨Q, 1, none⟩ = some (.int .i64 5000) ∧ W'.cell? ⟨Q + 1, 0, none⟩ = some (.int .i64 0) ∧ W'.cell? ⟨Q + 1, 1, none⟩ = some (.int .i64 0) ∧ W'.cell? ⟨X1, 0, none⟩ = some (.int .i64 1000) ∧ W'.cell? ⟨X1, 1, none⟩ = some (.int .i64 1000) ∧ W'.cell? ⟨X2, 0, none⟩ = some (.int .i64 20) ∧ W'.cell? ⟨X2, 1, none⟩ = some (.int .i64 20))
        (first | with_reducible exact holds12 Q8.out | with_reducible exact holds12 (.drew Q8.out) | with_reducible exact holds12 (.drew (Q8.out.alloc _)) | with_reducible exact holds12 (.drew ((Q8.out.alloc _).alloc _)) | with_reducible exact holds12 Q8a.out | with_reducible exact holds12 Q8b.out | with_reducible exact holds12 Q8c.out | with_reducible exact holds12 Q8d.out | with_reducible exact holds12 Q8e.out | with_reducible exact holds12 Q8f.out | with_reducible exact holds12 (Q8f.out.alloc _) | with_reducible exact holds12 ((Q8f.out.alloc _).alloc _) | with_reducible exact holds12 (Q8a.out.alloc _) | with_reducible exact holds12 ((Q8a.out.alloc _).alloc _) | with_reducible exact holds12 (Q8b.out.alloc _) | with_reducible exact holds12 ((Q8b.out.alloc _).alloc _) | with_reducible exact holds12 (Q8c.out.alloc _) | with_reducible exact holds12 ((Q8c.out.alloc _).alloc _) | with_reducible exact holds12 (Q8d.out.alloc _) | with_reducible exact holds12 ((Q8d.out.alloc _).alloc _) | with_reducible exact holds12 (Q8e.out.alloc _) | with_reducible exact holds12 ((Q8e.out.alloc _).alloc _) | with_reducible exact holds12 (Q8.out.alloc _) | with_reducible exact holds12 ((Q8.out.alloc _).alloc _) | with_reducible exact holds12 ((Q8f.out.setNew LT8.out _ _ _ (by omega)).setNew LT8.out _ _ _ (by omega)) | with_reducible exact holds12 ((((Q8f.out.setNew LT8.out _ _ _ (by omega)).setNew LT8.out _ _ _ (by omega)).setNew LT8.out _ _ _ (by omega)).setNew LT8.out _ _ _ (by omega)) | with_reducible exact holds12 (((Q8f.out.setNew LT8.out _ _ _ (by omega)).setNew LT8.out _ _ _ (by omega)).alloc _) | with_reducible exact holds12 (((Q8f.out.alloc _).setNew LT8.out _ _ _ (by omega)).setNew LT8.out _ _ _ (by omega)) | with_reducible exact holds12 (((((Q8f.out.setNew LT8.out _ _ _ (by omega)).setNew LT8.out _ _ _ (by omega)).setNew LT8.out _ _ _ (by omega)).setNew LT8.out _ _ _ (by omega)).alloc _) | with_reducible exact holds12 (((((Q8f.out.alloc _).setNew LT8.out _ _ _ (by omega)).setNew LT8.out _ _ _ (by omega)).setNew LT8.out _ _ _ (by omega)).setNew LT8.out _ _ _ (by omega)) | with_reducible exact holds12 ((((Q8f.out.setNew LT8.out _ _ _ (by omega)).setNew LT8.out _ _ _ (by omega)).alloc _).alloc _) | with_reducible exact holds12 ((((Q8f.out.alloc _).alloc _).setNew LT8.out _ _ _ (by omega)).setNew LT8.out _ _ _ (by omega)) | with_reducible exact holds12 ((((((Q8f.out.setNew LT8.out _ _ _ (by omega)).setNew LT8.out _ _ _ (by omega)).setNew LT8.out _ _ _ (by omega)).setNew LT8.out _ _ _ (by omega)).alloc _).alloc _) | with_reducible exact holds12 ((((((Q8f.out.alloc _).alloc _).setNew LT8.out _ _ _ (by omega)).setNew LT8.out _ _ _ (by omega)).setNew LT8.out _ _ _ (by omega)).setNew LT8.out _ _ _ (by omega)) | fail)
        (first | (go_at_call 134; (with_reducible refine (Ha.out _).mono ?_); rintro e w8a ⟨rfl, hb8a⟩; with_reducible (first | (have kb8a : Below w7.heap.size w7 w8a := below_plain hb8a; have NB8 := Lib.hid (NB8.out.below kb8a)) | (have kb8a : Below w7.heap.size w7 w8a := below_made hb8a; have NB8 := Lib.hid (NB8.out.made.below hb8a)) | (have kb8a : Below w7.heap.size w7 w8a := below_made (below_made hb8a); have NB8 := Lib.hid (NB8.out.made2.below hb8a)) | (have kb8a : Below w7.heap.size w7 w8a := below_plain (below_of_drew hb8a); have NB8 := Lib.hid (NB8.out.below kb8a)) | (have kb8a : Below w7.heap.size w7 w8a := below_made (below_of_drew hb8a); have NB8 := Lib.hid (NB8.out.made.below (below_of_drew hb8a))) | (have kb8a : Below w7.heap.size w7 w8a := below_made (below_made (below_of_drew hb8a)); have NB8 := Lib.hid (NB8.out.made2.below (below_of_drew hb8a)))); have zz8a := kb8a.size; have Q8a := Lib.hid (Q8.out.below kb8a); have kb8aH := Lib.hid kb8a; clear kb8a hb8a; skip) | (go_at_call 134; (with_reducible refine (Hb.out _).mono ?_); rintro e w8b ⟨rfl, hb8b⟩; with_reducible (first | (have kb8b : Below w8a.heap.size w8a w8b := below_plain hb8b; have NB8 := Lib.hid (NB8.out.below kb8b)) | (have kb8b : Below w8a.heap.size w8a w8b := below_made hb8b; have NB8 := Lib.hid (NB8.out.made.below hb8b)) | (have kb8b : Below w8a.heap.size w8a w8b := below_made (below_made hb8b); have NB8 := Lib.hid (NB8.out.made2.below hb8b)) | (have kb8b : Below w8a.heap.size w8a w8b := below_plain (below_of_drew hb8b); have NB8 := Lib.hid (NB8.out.below kb8b)) | (have kb8b : Below w8a.heap.size w8a w8b := below_made (below_of_drew hb8b); have NB8 := Lib.hid (NB8.out.made.below (below_of_drew hb8b))) | (have kb8b : Below w8a.heap.size w8a w8b := below_made (below_made (below_of_drew hb8b)); have NB8 := Lib.hid (NB8.out.made2.below (below_of_drew hb8b)))); have zz8b := kb8b.size; have Q8b := Lib.hid (Q8a.out.below kb8b); have kb8bH := Lib.hid kb8b; clear kb8b hb8b; skip) | (go_at_call 135; (with_reducible refine (Hc.out _).mono ?_); rintro e w8c ⟨rfl, hb8c⟩; with_reducible (first | (have kb8c : Below w8b.heap.size w8b w8c := below_plain hb8c; have NB8 := Lib.hid (NB8.out.below kb8c)) | (have kb8c : Below w8b.heap.size w8b w8c := below_made hb8c; have NB8 := Lib.hid (NB8.out.made.below hb8c)) | (have kb8c : Below w8b.heap.size w8b w8c := below_made (below_made hb8c); have NB8 := Lib.hid (NB8.out.made2.below hb8c)) | (have kb8c : Below w8b.heap.size w8b w8c := below_plain (below_of_drew hb8c); have NB8 := Lib.hid (NB8.out.below kb8c)) | (have kb8c : Below w8b.heap.size w8b w8c := below_made (below_of_drew hb8c); have NB8 := Lib.hid (NB8.out.made.below (below_of_drew hb8c))) | (have kb8c : Below w8b.heap.size w8b w8c := below_made (below_made (below_of_drew hb8c)); have NB8 := Lib.hid (NB8.out.made2.below (below_of_drew hb8c)))); have zz8c := kb8c.size; have Q8c := Lib.hid (Q8b.out.below kb8c); have kb8cH := Lib.hid kb8c; clear kb8c hb8c; skip) | (go_at_call 134; (with_reducible refine (Ha.out _).mono ?_); rintro e w8d ⟨rfl, hb8d⟩; with_reducible (first | (have kb8d : Below w8c.heap.size w8c w8d := below_plain hb8d; have NB8 := Lib.hid (NB8.out.below kb8d)) | (have kb8d : Below w8c.heap.size w8c w8d := below_made hb8d; have NB8 := Lib.hid (NB8.out.made.below hb8d)) | (have kb8d : Below w8c.heap.size w8c w8d := below_made (below_made hb8d); have NB8 := Lib.hid (NB8.out.made2.below hb8d)) | (have kb8d : Below w8c.heap.size w8c w8d := below_plain (below_of_drew hb8d); have NB8 := Lib.hid (NB8.out.below kb8d)) | (have kb8d : Below w8c.heap.size w8c w8d := below_made (below_of_drew hb8d); have NB8 := Lib.hid (NB8.out.made.below (below_of_drew hb8d))) | (have kb8d : Below w8c.heap.size w8c w8d := below_made (below_made (below_of_drew hb8d)); have NB8 := Lib.hid (NB8.out.made2.below (below_of_drew hb8d)))); have zz8d := kb8d.size; have Q8d := Lib.hid (Q8c.out.below kb8d); have kb8dH := Lib.hid kb8d; clear kb8d hb8d; skip) | (go_at_call 134; (with_reducible refine (Hd.out _).mono ?_); rintro e w8e ⟨rfl, hb8e⟩; with_reducible (first | (have kb8e : Below w8d.heap.size w8d w8e := below_plain hb8e; have NB8 := Lib.hid (NB8.out.below kb8e)) | (have kb8e : Below w8d.heap.size w8d w8e := below_made hb8e; have NB8 := Lib.hid (NB8.out.made.below hb8e)) | (have kb8e : Below w8d.heap.size w8d w8e := below_made (below_made hb8e); have NB8 := Lib.hid (NB8.out.made2.below hb8e)) | (have kb8e : Below w8d.heap.size w8d w8e := below_plain (below_of_drew hb8e); have NB8 := Lib.hid (NB8.out.below kb8e)) | (have kb8e : Below w8d.heap.size w8d w8e := below_made (below_of_drew hb8e); have NB8 := Lib.hid (NB8.out.made.below (below_of_drew hb8e))) | (have kb8e : Below w8d.heap.size w8d w8e := below_made (below_made (below_of_drew hb8e)); have NB8 := Lib.hid (NB8.out.made2.below (below_of_drew hb8e)))); have zz8e := kb8e.size; have Q8e := Lib.hid (Q8d.out.below kb8e); have kb8eH := Lib.hid kb8e; clear kb8e hb8e; skip) | (go_at_call 135; (with_reducible refine (He.out _).mono ?_); rintro e w8f ⟨rfl, hb8f⟩; with_reducible (first | (have kb8f : Below w8e.heap.size w8e w8f := below_plain hb8f; have NB8 := Lib.hid (NB8.out.below kb8f)) | (have kb8f : Below w8e.heap.size w8e w8f := below_made hb8f; have NB8 := Lib.hid (NB8.out.made.below hb8f)) | (have kb8f : Below w8e.heap.size w8e w8f := below_made (below_made hb8f); have NB8 := Lib.hid (NB8.out.made2.below hb8f)) | (have kb8f : Below w8e.heap.size w8e w8f := below_plain (below_of_drew hb8f); have NB8 := Lib.hid (NB8.out.below kb8f)) | (have kb8f : Below w8e.heap.size w8e w8f := below_made (below_of_drew hb8f); have NB8 := Lib.hid (NB8.out.made.below (below_of_drew hb8f))) | (have kb8f : Below w8e.heap.size w8e w8f := below_made (below_made (below_of_drew hb8f)); have NB8 := Lib.hid (NB8.out.made2.below (below_of_drew hb8f)))); have zz8f := kb8f.size; (first | (obtain ⟨⟨zn0, zn1⟩, ⟨zl0, zc0, zc1, zf0, zf1⟩, zl1, zc2, zc3, zf2, zf3⟩ := zero2 NB8.out) | (obtain ⟨⟨zl0, zn0, zn1⟩, zc0, zc1, zf0, zf1⟩ := zero1 NB8.out) | skip); have Q8f := Lib.hid (Q8e.out.below kb8f); have kb8fH := Lib.hid kb8f; clear kb8f hb8f; skip))
      all_goals
        rename_i hHeld
        clear hHeld
        have kE : Below w7.heap.size w7 w8f := (((((kb8aH.out.trans (kb8bH.out.mono (by omega))).trans (kb8cH.out.mono (by omega))).trans (kb8dH.out.mono (by omega))).trans (kb8eH.out.mono (by omega))).trans (kb8fH.out.mono (by omega)))
      all_goals
        go_wp2_with fail
        go_meet
        go_light
        refine ⟨_, _, rfl, rfl, (by first | omega | (simp <;> omega)), (by first | omega | (simp <;> omega)), (by first | omega | (simp <;> omega)), (by first | omega | (simp <;> omega)), (by first | omega | (simp <;> omega)), ?_, (by go_simp), (by go_simp), (by go_simp), (by go_simp), (by go_simp), (by go_simp), (by go_simp), (by go_simp)⟩
        repeat (first | exact kE | refine Below.alloc ?_ (by first | omega | (simp <;> omega)) _ | refine Below.setCell ?_ (by dsimp only; omega) _ | refine belowDrew ?_)
    case rest =>
      obtain ⟨w9, hwc⟩ : ∃ z, z = wc := ⟨_, rfl⟩
      subst hwc
      obtain ⟨X4, X5, rfl, rfl, x4l, x5l, x45, x4g, x5g, kc, x_c0, x_c1, y_c0, y_c1, x_f0, x_f1, y_f0, y_f1⟩ := hcut
      have k9 := kc
      clear kc
      have S9 := k9.size
      have res_9c0 := (k9.cell (p := ⟨Z + 1 + 1, 0, none⟩) (by show Z + 1 + 1 < _; omega)).trans res_7c0
      have res_9c1 := (k9.cell (p := ⟨Z + 1 + 1, 1, none⟩) (by show Z + 1 + 1 < _; omega)).trans res_7c1
      have res_9c2 := (k9.cell (p := ⟨Z + 1 + 1, 2, none⟩) (by show Z + 1 + 1 < _; omega)).trans res_7c2
      have res_9c3 := (k9.cell (p := ⟨Z + 1 + 1, 3, none⟩) (by show Z + 1 + 1 < _; omega)).trans res_7c3
      have res_9f0 := (k9.frozen (p := ⟨Z + 1 + 1, 0, none⟩) (by show Z + 1 + 1 < _; omega)).trans res_7f0
      have res_9f1 := (k9.frozen (p := ⟨Z + 1 + 1, 1, none⟩) (by show Z + 1 + 1 < _; omega)).trans res_7f1
      have res_9f2 := (k9.frozen (p := ⟨Z + 1 + 1, 2, none⟩) (by show Z + 1 + 1 < _; omega)).trans res_7f2
      have res_9f3 := (k9.frozen (p := ⟨Z + 1 + 1, 3, none⟩) (by show Z + 1 + 1 < _; omega)).trans res_7f3
      have u_9c0 := (k9.cell (p := ⟨P, 0, none⟩) (by show P < _; omega)).trans u_7c0
      have u_9c1 := (k9.cell (p := ⟨P, 1, none⟩) (by show P < _; omega)).trans u_7c1
      have v_9c0 := (k9.cell (p := ⟨P + 1, 0, none⟩) (by show P + 1 < _; omega)).trans v_7c0
      have v_9c1 := (k9.cell (p := ⟨P + 1, 1, none⟩) (by show P + 1 < _; omega)).trans v_7c1
      have a_9c0 := (k9.cell (p := ⟨Q, 0, none⟩) (by show Q < _; omega)).trans a_7c0
      have a_9c1 := (k9.cell (p := ⟨Q, 1, none⟩) (by show Q < _; omega)).trans a_7c1
      have b_9c0 := (k9.cell (p := ⟨Q + 1, 0, none⟩) (by show Q + 1 < _; omega)).trans b_7c0
      have b_9c1 := (k9.cell (p := ⟨Q + 1, 1, none⟩) (by show Q + 1 < _; omega)).trans b_7c1
      have th_9c0 := (k9.cell (p := ⟨X1, 0, none⟩) (by show X1 < _; omega)).trans th_7c0
      have th_9c1 := (k9.cell (p := ⟨X1, 1, none⟩) (by show X1 < _; omega)).trans th_7c1
      have dn_9c0 := (k9.cell (p := ⟨X2, 0, none⟩) (by show X2 < _; omega)).trans dn_7c0
      have dn_9c1 := (k9.cell (p := ⟨X2, 1, none⟩) (by show X2 < _; omega)).trans dn_7c1
      have cr_9c0 := (k9.cell (p := ⟨X3, 0, none⟩) (by show X3 < _; omega)).trans cr_7c0
      have cr_9c1 := (k9.cell (p := ⟨X3, 1, none⟩) (by show X3 < _; omega)).trans cr_7c1
      have BB9 := Lib.hid (BB7.out.trans (k9.mono BB7.out.size))
      clear k9 res_7c0 res_7c1 res_7c2 res_7c3 res_7f0 res_7f1 res_7f2 res_7f3 u_7c0 u_7c1 v_7c0 v_7c1 a_7c0 a_7c1 b_7c0 b_7c1 th_7c0 th_7c1 dn_7c0 dn_7c1 cr_7c0 cr_7c1 BB7
      have x_9c0 := x_c0
      have x_9c1 := x_c1
      have x_9f0 := x_f0
      have x_9f1 := x_f1
      clear x_c0 x_c1 x_f0 x_f1
      have y_9c0 := y_c0
      have y_9c1 := y_c1
      have y_9f0 := y_f0
      have y_9f1 := y_f1
      clear y_c0 y_c1 y_f0 y_f1
      clear u_9c0 u_9c1
      clear v_9c0 v_9c1
      clear th_9c0 th_9c1
      clear dn_9c0 dn_9c1
      obtain ⟨hs0, hs1, hs2⟩ | ⟨hs0, hs1, hs2⟩ := HS.out
      · subst hs0 hs1 hs2
        clear HS
        go_upto_region 8 with fail
        have x54 : X5 ≠ X4 := Ne.symm x45
        have yr : Z + 1 + 1 < w9.heap.size := by omega
        have HR := Lib.hid (show Holds w9 [(Z + 1 + 1, 0, .int .i64 0), (Z + 1 + 1, 1, .int .i64 0), (Z + 1 + 1, 2, .int .i64 0), (Z + 1 + 1, 3, .int .i64 0)] from .cons yr res_9c0 (.cons yr res_9c1 (.cons yr res_9c2 (.cons yr res_9c3 (.nil _)))))
        have HRF := Lib.hid (show Frees w9 [(Z + 1 + 1, 0), (Z + 1 + 1, 1), (Z + 1 + 1, 2), (Z + 1 + 1, 3)] from .cons yr res_9f0 (.cons yr res_9f1 (.cons yr res_9f2 (.cons yr res_9f3 (.nil _)))))
        have NR4 := Lib.hid (show ∀ z, z ∈ ([(Z + 1 + 1, 0, .int .i64 0), (Z + 1 + 1, 1, .int .i64 0), (Z + 1 + 1, 2, .int .i64 0), (Z + 1 + 1, 3, .int .i64 0)] : List (Nat × Nat × Value)) → z.1 ≠ X4 from (by intro z hz; simp at hz; rcases hz with rfl | rfl | rfl | rfl <;> (show _ ≠ _; omega)))
        have NR5 := Lib.hid (show ∀ z, z ∈ ([(Z + 1 + 1, 0, .int .i64 0), (Z + 1 + 1, 1, .int .i64 0), (Z + 1 + 1, 2, .int .i64 0), (Z + 1 + 1, 3, .int .i64 0)] : List (Nat × Nat × Value)) → z.1 ≠ X5 from (by intro z hz; simp at hz; rcases hz with rfl | rfl | rfl | rfl <;> (show _ ≠ _; omega)))
        go_cut [] from 81 to 90 (fun wx => Below w.heap.size w wx ∧ Pair wx X4 (.int .i64 100000) (.int .i64 100000) ∧ Pair wx X5 (.int .i64 50000) (.int .i64 100000) ∧ Holds wx [(Z + 1 + 1, 0, .int .i64 0), (Z + 1 + 1, 1, .int .i64 0), (Z + 1 + 1, 2, .int .i64 0), (Z + 1 + 1, 3, .int .i64 0)] ∧ Frees wx [(Z + 1 + 1, 0), (Z + 1 + 1, 1), (Z + 1 + 1, 2), (Z + 1 + 1, 3)] ∧ w9.heap.size ≤ wx.heap.size)
        case first =>
          have Hf := Lib.hid ar_f
          have Hg := Lib.hid ar_g
          have Hh := Lib.hid ar_h
          have Hi := Lib.hid ar_i
          have yb10_0 : Q < w9.heap.size := by omega
          have yb10_1 : Q + 1 < w9.heap.size := by omega
          have yb10_2 : X3 < w9.heap.size := by omega
          have yb10_3 : X4 < w9.heap.size := by omega
          have yb10_4 : X5 < w9.heap.size := by omega
          have Q10 := Lib.hid (show Holds w9 [(Q + 1, 0, .int .i64 0), (Q + 1, 1, .int .i64 0), (Q, 0, .int .i64 5000), (Q, 1, .int .i64 5000), (X3, 0, .int .i64 10), (X3, 1, .int .i64 20)] from (.cons yb10_1 b_9c0 (.cons yb10_1 b_9c1 (.cons yb10_0 a_9c0 (.cons yb10_0 a_9c1 (.cons yb10_2 cr_9c0 (.cons yb10_2 cr_9c1 (.nil _))))))))
          have PX10 := Lib.hid (show Pair w9 X4 (.int .i64 100000) (.int .i64 100000) from ⟨x_9c0, x_9c1⟩)
          have F10 := Lib.hid (show Frees w9 [(X4, 0), (X4, 1), (X5, 0), (X5, 1)] from .cons yb10_3 x_9f0 (.cons yb10_3 x_9f1 (.cons yb10_4 y_9f0 (.cons yb10_4 y_9f1 (.nil _)))))
          have NX10 := Lib.hid (show ∀ z, z ∈ ([(Q + 1, 0, .int .i64 0), (Q + 1, 1, .int .i64 0), (Q, 0, .int .i64 5000), (Q, 1, .int .i64 5000), (X3, 0, .int .i64 10), (X3, 1, .int .i64 20)] : List (Nat × Nat × Value)) → z.1 ≠ X4 from (by intro z hz; simp at hz; rcases hz with rfl | rfl | rfl | rfl | rfl | rfl <;> (show _ ≠ _; omega)))
          have NY10 := Lib.hid (show ∀ z, z ∈ ([(Q + 1, 0, .int .i64 0), (Q + 1, 1, .int .i64 0), (Q, 0, .int .i64 5000), (Q, 1, .int .i64 5000), (X3, 0, .int .i64 10), (X3, 1, .int .i64 20)] : List (Nat × Nat × Value)) → z.1 ≠ X5 from (by intro z hz; simp at hz; rcases hz with rfl | rfl | rfl | rfl | rfl | rfl <;> (show _ ≠ _; omega)))
          have yd10c0 : w9.drew.cell? ⟨X5, 0, none⟩ = some (.int .i64 0) := y_9c0
          have yd10c1 : w9.drew.cell? ⟨X5, 1, none⟩ = some (.int .i64 0) := y_9c1
          refine wp_region_noPanic ?_
          refine wp_region_held_drew (S := fun W' => (W'.cell? ⟨Q + 1, 0, none⟩ = some (.int .i64 0) ∧ W'.cell? ⟨Q + 1, 1, none⟩ = some (.int .i64 0) ∧ W'.cell? ⟨Q, 0, none⟩ = some (.int .i64 5000) ∧ W'.cell? ⟨Q, 1, none⟩ = some (.int .i64 5000) ∧ W'.cell? ⟨X3, 0, none⟩ = some (.int .i64 10) ∧ W'.cell? ⟨X3, 1, none⟩ = some (.int .i64 20)) ∧ (W'.cell? ⟨X4, 0, none⟩ = some (.int .i64 100000) ∧ W'.cell? ⟨X4, 1, none⟩ = some (.int .i64 100000)) ∧ (W'.frozen? ⟨X4, 0, none⟩ = false ∧ W'.frozen? ⟨X4, 1, none⟩ = false ∧ W'.frozen? ⟨X5, 0, none⟩ = false ∧ W'.frozen? ⟨X5, 1, none⟩ = false)) (by kernel_rfl) (And.intro (holds6 (Holds.drew Q10.out)) (And.intro (Pair.out (Pair.drew PX10.out)) (frees4 (Frees.drew F10.out)))) (fun hHeld => ?_)
          refine wpAnyH_take (i := 0) (oi := ({ dst := some 81, op := Op.load 203 (Operand.tmp 21), type := 203, pos := "drift.go:148", after := #[], guard := none } : Oper)) (v := ?_) rfl (by kernel_rfl) (by kernel_rfl) (by kernel_rfl) (fun _ _ _ h => h) (Or.inl ⟨by rfl, ?_⟩) (by assumption) ?_
          rotate_left
          · ((intro w hSw; (try dsimp only at hSw); go_split_ands; go_simp); try with_reducible rfl)
          (try simp only [Act.put, List.setIfInBounds_toArray, List.set_cons_zero, List.set_cons_succ])
          refine wpAnyH_take (i := 1) (oi := ({ dst := some 82, op := Op.load 203 (Operand.tmp 16), type := 203, pos := "drift.go:148", after := #[], guard := none } : Oper)) (v := ?_) rfl (by kernel_rfl) (by kernel_rfl) (by kernel_rfl) (fun _ _ _ h => h) (Or.inl ⟨by rfl, ?_⟩) (by assumption) ?_
          rotate_left
          · ((intro w hSw; (try dsimp only at hSw); go_split_ands; go_simp); try with_reducible rfl)
          (try simp only [Act.put, List.setIfInBounds_toArray, List.set_cons_zero, List.set_cons_succ])
          refine wpAnyH_take (i := 2) (oi := ({ dst := some 83, op := Op.load 203 (Operand.tmp 20), type := 203, pos := "drift.go:148", after := #[], guard := none } : Oper)) (v := ?_) rfl (by kernel_rfl) (by kernel_rfl) (by kernel_rfl) (fun _ _ _ h => h) (Or.inl ⟨by rfl, ?_⟩) (by assumption) ?_
          rotate_left
          · ((intro w hSw; (try dsimp only at hSw); go_split_ands; go_simp); try with_reducible rfl)
          (try simp only [Act.put, List.setIfInBounds_toArray, List.set_cons_zero, List.set_cons_succ])
          refine wpAnyH_take (i := 6) (oi := ({ dst := some 87, op := Op.load 203 (Operand.tmp 15), type := 203, pos := "drift.go:148", after := #[], guard := none } : Oper)) (v := ?_) rfl (by kernel_rfl) (by kernel_rfl) (by kernel_rfl) (fun _ _ _ h => h) (Or.inl ⟨by rfl, ?_⟩) (by assumption) ?_
          rotate_left
          · ((intro w hSw; (try dsimp only at hSw); go_split_ands; go_simp); try with_reducible rfl)
          (try simp only [Act.put, List.setIfInBounds_toArray, List.set_cons_zero, List.set_cons_succ])
          refine wpAnyH_take (i := 7) (oi := ({ dst := some 88, op := Op.load 203 (Operand.tmp 20), type := 203, pos := "drift.go:148", after := #[], guard := none } : Oper)) (v := ?_) rfl (by kernel_rfl) (by kernel_rfl) (by kernel_rfl) (fun _ _ _ h => h) (Or.inl ⟨by rfl, ?_⟩) (by assumption) ?_
          rotate_left
          · ((intro w hSw; (try dsimp only at hSw); go_split_ands; go_simp); try with_reducible rfl)
          (try simp only [Act.put, List.setIfInBounds_toArray, List.set_cons_zero, List.set_cons_succ])
          refine wpAnyH_ready (rs := [3, 5]) (by kernel_rfl) (by simp) (AllReadyH.cons (o := ({ dst := some 84, op := Op.call { callee := Callee.value (Operand.func 134), args := #[Operand.tmp 82, Operand.tmp 83], argTypes := #[203, 203] }, type := 203, pos := "drift.go:148", after := #[{ on := 1, ground := Ground.data }, { on := 2, ground := Ground.data }], guard := none } : Oper)) rfl (fun K hK => ?_) (AllReadyH.cons (o := ({ dst := some 86, op := Op.load 203 (Operand.tmp 22), type := 203, pos := "drift.go:148", after := #[], guard := none } : Oper)) rfl (fun K hK => ?_) AllReadyH.nil))
          · go_simp
            (go_at_call 134; (with_reducible refine (Hf.out _).mono ?_); rintro e w10a ⟨rfl, hb10a⟩)
            have kb10a : Below w9.heap.size w9 w10a := below_of_drew hb10a
            have Q10a := Lib.hid (Q10.out.below kb10a)
            have F10a := Lib.hid (F10.out.below kb10a)
            have PX10a := Lib.hid (PX10.out.below yb10_3 kb10a)
            have yy10a_c0 := (kb10a.cell (p := ⟨X5, 0, none⟩) yb10_4).trans y_9c0
            have yy10a_c1 := (kb10a.cell (p := ⟨X5, 1, none⟩) yb10_4).trans y_9c1
            have lx10a := Nat.lt_of_lt_of_le yb10_3 kb10a.size
            have ly10a := Nat.lt_of_lt_of_le yb10_4 kb10a.size
            have kb10aH := Lib.hid kb10a
            clear kb10a hb10a
            refine hK.out _ _ (And.intro (holds6 Q10a.out) (And.intro (Pair.out PX10a.out) (frees4 F10a.out))) (fun hHeld => ?_)
            clear hK K
            (try simp only [Act.put, List.setIfInBounds_toArray, List.set_cons_zero, List.set_cons_succ])
            refine wpAnyH_ready (rs := [4, 5]) (by kernel_rfl) (by simp) (AllReadyH.cons (o := ({ dst := some 85, op := Op.call { callee := Callee.value (Operand.func 136), args := #[Operand.tmp 81, Operand.tmp 84], argTypes := #[203, 203] }, type := 203, pos := "drift.go:148", after := #[{ on := 0, ground := Ground.data }, { on := 3, ground := Ground.data }, { on := 3, ground := Ground.chain }], guard := none } : Oper)) rfl (fun K hK => ?_) (AllReadyH.cons (o := ({ dst := some 86, op := Op.load 203 (Operand.tmp 22), type := 203, pos := "drift.go:148", after := #[], guard := none } : Oper)) rfl (fun K hK => ?_) AllReadyH.nil))
            · go_simp
              (go_at_call 136; (with_reducible refine (Hg.out _).mono ?_); rintro e w10b ⟨rfl, hb10b⟩)
              have kb10b : Below w10a.heap.size w10a w10b := hb10b
              have Q10b := Lib.hid (Q10a.out.below kb10b)
              have F10b := Lib.hid (F10a.out.below kb10b)
              have PX10b := Lib.hid (PX10a.out.below lx10a kb10b)
              have yy10b_c0 := (kb10b.cell (p := ⟨X5, 0, none⟩) ly10a).trans yy10a_c0
              have yy10b_c1 := (kb10b.cell (p := ⟨X5, 1, none⟩) ly10a).trans yy10a_c1
              have lx10b := Nat.lt_of_lt_of_le lx10a kb10b.size
              have ly10b := Nat.lt_of_lt_of_le ly10a kb10b.size
              have kb10bH := Lib.hid kb10b
              clear kb10b hb10b
              refine hK.out _ _ (And.intro (holds6 Q10b.out) (And.intro (Pair.out PX10b.out) (frees4 F10b.out))) (fun hHeld => ?_)
              clear hK K
              (try simp only [Act.put, List.setIfInBounds_toArray, List.set_cons_zero, List.set_cons_succ])
              refine wpAnyH_ready (rs := [5, 8]) (by kernel_rfl) (by simp) (AllReadyH.cons (o := ({ dst := some 86, op := Op.load 203 (Operand.tmp 22), type := 203, pos := "drift.go:148", after := #[], guard := none } : Oper)) rfl (fun K hK => ?_) (AllReadyH.cons (o := ({ dst := some 89, op := Op.call { callee := Callee.value (Operand.func 134), args := #[Operand.tmp 87, Operand.tmp 88], argTypes := #[203, 203] }, type := 203, pos := "drift.go:148", after := #[{ on := 6, ground := Ground.data }, { on := 7, ground := Ground.data }, { on := 4, ground := Ground.chain }], guard := none } : Oper)) rfl (fun K hK => ?_) AllReadyH.nil))
              · go_simp
                refine hK.out _ _ (And.intro (holds6 Q10b.out) (And.intro (Pair.out PX10b.out) (frees4 F10b.out))) (fun hHeld => ?_)
                clear hK K
                (try simp only [Act.put, List.setIfInBounds_toArray, List.set_cons_zero, List.set_cons_succ])
                refine wpAnyH_ready (rs := [8]) (by kernel_rfl) (by simp) (AllReadyH.cons (o := ({ dst := some 89, op := Op.call { callee := Callee.value (Operand.func 134), args := #[Operand.tmp 87, Operand.tmp 88], argTypes := #[203, 203] }, type := 203, pos := "drift.go:148", after := #[{ on := 6, ground := Ground.data }, { on := 7, ground := Ground.data }, { on := 4, ground := Ground.chain }], guard := none } : Oper)) rfl (fun K hK => ?_) AllReadyH.nil)
                go_simp
                (go_at_call 134; (with_reducible refine (Hh.out _).mono ?_); rintro e w10c ⟨rfl, hb10c⟩)
                have kb10c : Below w10b.heap.size w10b w10c := hb10c
                have Q10c := Lib.hid (Q10b.out.below kb10c)
                have F10c := Lib.hid (F10b.out.below kb10c)
                have PX10c := Lib.hid (PX10b.out.below lx10b kb10c)
                have yy10c_c0 := (kb10c.cell (p := ⟨X5, 0, none⟩) ly10b).trans yy10b_c0
                have yy10c_c1 := (kb10c.cell (p := ⟨X5, 1, none⟩) ly10b).trans yy10b_c1
                have lx10c := Nat.lt_of_lt_of_le lx10b kb10c.size
                have ly10c := Nat.lt_of_lt_of_le ly10b kb10c.size
                have kb10cH := Lib.hid kb10c
                clear kb10c hb10c
                refine hK.out _ _ (And.intro (holds6 Q10c.out) (And.intro (Pair.out PX10c.out) (frees4 F10c.out))) (fun hHeld => ?_)
                clear hK K
                (try simp only [Act.put, List.setIfInBounds_toArray, List.set_cons_zero, List.set_cons_succ])
                refine wpAnyH_ready (rs := [9]) (by kernel_rfl) (by simp) (AllReadyH.cons (o := ({ dst := some 90, op := Op.call { callee := Callee.value (Operand.func 135), args := #[Operand.tmp 86, Operand.tmp 89], argTypes := #[203, 203] }, type := 203, pos := "drift.go:148", after := #[{ on := 5, ground := Ground.data }, { on := 8, ground := Ground.data }, { on := 8, ground := Ground.chain }], guard := none } : Oper)) rfl (fun K hK => ?_) AllReadyH.nil)
                go_simp
                (go_at_call 135; (with_reducible refine (Hi.out _).mono ?_); rintro e w10d ⟨rfl, hb10d⟩)
                have kb10d : Below w10c.heap.size w10c w10d := hb10d
                have Q10d := Lib.hid (Q10c.out.below kb10d)
                have F10d := Lib.hid (F10c.out.below kb10d)
                have PX10d := Lib.hid (PX10c.out.below lx10c kb10d)
                have yy10d_c0 := (kb10d.cell (p := ⟨X5, 0, none⟩) ly10c).trans yy10c_c0
                have yy10d_c1 := (kb10d.cell (p := ⟨X5, 1, none⟩) ly10c).trans yy10c_c1
                have lx10d := Nat.lt_of_lt_of_le lx10c kb10d.size
                have ly10d := Nat.lt_of_lt_of_le ly10c kb10d.size
                have kb10dH := Lib.hid kb10d
                clear kb10d hb10d
                refine hK.out _ _ (And.intro (holds6 Q10d.out) (And.intro (Pair.out PX10d.out) (frees4 F10d.out))) (fun hHeld => ?_)
                clear hK K
                (try simp only [Act.put, List.setIfInBounds_toArray, List.set_cons_zero, List.set_cons_succ])
                refine wpAnyH_ready (rs := [10]) (by kernel_rfl) (by simp) (AllReadyH.cons (o := ({ dst := none, op := Op.store 203 (Operand.tmp 21) (Operand.tmp 85), type := 0, pos := "drift.go:148", after := #[{ on := 4, ground := Ground.data }, { on := 9, ground := Ground.chain }, { on := 0, ground := Ground.phase }, { on := 1, ground := Ground.phase }, { on := 2, ground := Ground.phase }, { on := 3, ground := Ground.phase }, { on := 4, ground := Ground.phase }, { on := 5, ground := Ground.textOnly Departure.lateStores }, { on := 6, ground := Ground.textOnly Departure.lateStores }, { on := 7, ground := Ground.textOnly Departure.lateStores }, { on := 8, ground := Ground.textOnly Departure.lateStoresUnsure }, { on := 9, ground := Ground.textOnly Departure.lateStoresUnsure }], guard := none } : Oper)) rfl (fun K hK => ?_) AllReadyH.nil)
                go_simp
                refine hK.out _ _ (And.intro (holds6 ((Q10d.out.set _ _ _ NX10.out).set _ _ _ NX10.out)) (And.intro (Pair.out (Pair.set PX10d.out _ _)) (frees4 ((F10d.out.set _ _).set _ _)))) (fun hHeld => ?_)
                clear hK K
                (try simp only [Act.put, List.setIfInBounds_toArray, List.set_cons_zero, List.set_cons_succ])
                refine wpAnyH_ready (rs := [11]) (by kernel_rfl) (by simp) (AllReadyH.cons (o := ({ dst := none, op := Op.store 203 (Operand.tmp 22) (Operand.tmp 90), type := 0, pos := "drift.go:148", after := #[{ on := 9, ground := Ground.data }, { on := 10, ground := Ground.chain }, { on := 0, ground := Ground.phase }, { on := 1, ground := Ground.phase }, { on := 2, ground := Ground.phase }, { on := 3, ground := Ground.phase }, { on := 4, ground := Ground.phase }, { on := 5, ground := Ground.phase }, { on := 6, ground := Ground.phase }, { on := 7, ground := Ground.phase }, { on := 8, ground := Ground.phase }, { on := 9, ground := Ground.phase }, { on := 10, ground := Ground.phase }], guard := none } : Oper)) rfl (fun K hK => ?_) AllReadyH.nil)
                go_simp
                refine hK.out _ _ (And.intro (holds6 ((((Q10d.out.set _ _ _ NX10.out).set _ _ _ NX10.out).set _ _ _ NY10.out).set _ _ _ NY10.out)) (And.intro (Pair.out (Pair.far (Pair.set PX10d.out _ _) (by omega) _ _)) (frees4 ((((F10d.out.set _ _).set _ _).set _ _).set _ _)))) (fun hHeld => ?_)
                clear hK K
                (try simp only [Act.put, List.setIfInBounds_toArray, List.set_cons_zero, List.set_cons_succ])
                refine wpAnyH_done (by kernel_rfl) ?_ _
                refine NoPanic.normal ?_
                have kE : Below w9.heap.size w9 w10d := (((kb10aH.out.trans (kb10bH.out.mono (by have := kb10aH.out.size; omega))).trans (kb10cH.out.mono (by have := kb10aH.out.size; have := kb10bH.out.size; omega))).trans (kb10dH.out.mono (by have := kb10aH.out.size; have := kb10bH.out.size; have := kb10cH.out.size; omega)))
                have PXf := PX10d
                have Ff := F10d
                go_wp2_with fail
                go_meet
                exact ⟨(((((BB9.out.trans (kE.mono BB9.out.size)).setCell (p := ⟨X4, 0, none⟩) (by show _ ≤ X4; omega) _).setCell (p := ⟨X4, 1, none⟩) (by show _ ≤ X4; omega) _).setCell (p := ⟨X5, 0, none⟩) (by show _ ≤ X5; omega) _).setCell (p := ⟨X5, 1, none⟩) (by show _ ≤ X5; omega) _), Pair.far (Pair.set PXf.out _ _) (by omega) _ _, Pair.set (Pair.far (show Pair _ X5 _ _ from ⟨yy10d_c0, yy10d_c1⟩) (by omega) _ _) _ _, ((((HR.out.below kE).set _ _ _ NR4.out).set _ _ _ NR4.out).set _ _ _ NR5.out).set _ _ _ NR5.out, ((((HRF.out.below kE).set _ _).set _ _).set _ _).set _ _, by simp; have := kE.size; omega⟩
              · go_simp
                (go_at_call 134; (with_reducible refine (Hh.out _).mono ?_); rintro e w10c ⟨rfl, hb10c⟩)
                have kb10c : Below w10b.heap.size w10b w10c := hb10c
                have Q10c := Lib.hid (Q10b.out.below kb10c)
                have F10c := Lib.hid (F10b.out.below kb10c)
                have PX10c := Lib.hid (PX10b.out.below lx10b kb10c)
                have yy10c_c0 := (kb10c.cell (p := ⟨X5, 0, none⟩) ly10b).trans yy10b_c0
                have yy10c_c1 := (kb10c.cell (p := ⟨X5, 1, none⟩) ly10b).trans yy10b_c1
                have lx10c := Nat.lt_of_lt_of_le lx10b kb10c.size
                have ly10c := Nat.lt_of_lt_of_le ly10b kb10c.size
                have kb10cH := Lib.hid kb10c
                clear kb10c hb10c
                refine hK.out _ _ (And.intro (holds6 Q10c.out) (And.intro (Pair.out PX10c.out) (frees4 F10c.out))) (fun hHeld => ?_)
                clear hK K
                (try simp only [Act.put, List.setIfInBounds_toArray, List.set_cons_zero, List.set_cons_succ])
                refine wpAnyH_ready (rs := [5]) (by kernel_rfl) (by simp) (AllReadyH.cons (o := ({ dst := some 86, op := Op.load 203 (Operand.tmp 22), type := 203, pos := "drift.go:148", after := #[], guard := none } : Oper)) rfl (fun K hK => ?_) AllReadyH.nil)
                go_simp
                refine hK.out _ _ (And.intro (holds6 Q10c.out) (And.intro (Pair.out PX10c.out) (frees4 F10c.out))) (fun hHeld => ?_)
                clear hK K
                (try simp only [Act.put, List.setIfInBounds_toArray, List.set_cons_zero, List.set_cons_succ])
                refine wpAnyH_ready (rs := [9]) (by kernel_rfl) (by simp) (AllReadyH.cons (o := ({ dst := some 90, op := Op.call { callee := Callee.value (Operand.func 135), args := #[Operand.tmp 86, Operand.tmp 89], argTypes := #[203, 203] }, type := 203, pos := "drift.go:148", after := #[{ on := 5, ground := Ground.data }, { on := 8, ground := Ground.data }, { on := 8, ground := Ground.chain }], guard := none } : Oper)) rfl (fun K hK => ?_) AllReadyH.nil)
                go_simp
                (go_at_call 135; (with_reducible refine (Hi.out _).mono ?_); rintro e w10d ⟨rfl, hb10d⟩)
                have kb10d : Below w10c.heap.size w10c w10d := hb10d
                have Q10d := Lib.hid (Q10c.out.below kb10d)
                have F10d := Lib.hid (F10c.out.below kb10d)
                have PX10d := Lib.hid (PX10c.out.below lx10c kb10d)
                have yy10d_c0 := (kb10d.cell (p := ⟨X5, 0, none⟩) ly10c).trans yy10c_c0
                have yy10d_c1 := (kb10d.cell (p := ⟨X5, 1, none⟩) ly10c).trans yy10c_c1
                have lx10d := Nat.lt_of_lt_of_le lx10c kb10d.size
                have ly10d := Nat.lt_of_lt_of_le ly10c kb10d.size
                have kb10dH := Lib.hid kb10d
                clear kb10d hb10d
                refine hK.out _ _ (And.intro (holds6 Q10d.out) (And.intro (Pair.out PX10d.out) (frees4 F10d.out))) (fun hHeld => ?_)
                clear hK K
                (try simp only [Act.put, List.setIfInBounds_toArray, List.set_cons_zero, List.set_cons_succ])
                refine wpAnyH_ready (rs := [10]) (by kernel_rfl) (by simp) (AllReadyH.cons (o := ({ dst := none, op := Op.store 203 (Operand.tmp 21) (Operand.tmp 85), type := 0, pos := "drift.go:148", after := #[{ on := 4, ground := Ground.data }, { on := 9, ground := Ground.chain }, { on := 0, ground := Ground.phase }, { on := 1, ground := Ground.phase }, { on := 2, ground := Ground.phase }, { on := 3, ground := Ground.phase }, { on := 4, ground := Ground.phase }, { on := 5, ground := Ground.textOnly Departure.lateStores }, { on := 6, ground := Ground.textOnly Departure.lateStores }, { on := 7, ground := Ground.textOnly Departure.lateStores }, { on := 8, ground := Ground.textOnly Departure.lateStoresUnsure }, { on := 9, ground := Ground.textOnly Departure.lateStoresUnsure }], guard := none } : Oper)) rfl (fun K hK => ?_) AllReadyH.nil)
                go_simp
                refine hK.out _ _ (And.intro (holds6 ((Q10d.out.set _ _ _ NX10.out).set _ _ _ NX10.out)) (And.intro (Pair.out (Pair.set PX10d.out _ _)) (frees4 ((F10d.out.set _ _).set _ _)))) (fun hHeld => ?_)
                clear hK K
                (try simp only [Act.put, List.setIfInBounds_toArray, List.set_cons_zero, List.set_cons_succ])
                refine wpAnyH_ready (rs := [11]) (by kernel_rfl) (by simp) (AllReadyH.cons (o := ({ dst := none, op := Op.store 203 (Operand.tmp 22) (Operand.tmp 90), type := 0, pos := "drift.go:148", after := #[{ on := 9, ground := Ground.data }, { on := 10, ground := Ground.chain }, { on := 0, ground := Ground.phase }, { on := 1, ground := Ground.phase }, { on := 2, ground := Ground.phase }, { on := 3, ground := Ground.phase }, { on := 4, ground := Ground.phase }, { on := 5, ground := Ground.phase }, { on := 6, ground := Ground.phase }, { on := 7, ground := Ground.phase }, { on := 8, ground := Ground.phase }, { on := 9, ground := Ground.phase }, { on := 10, ground := Ground.phase }], guard := none } : Oper)) rfl (fun K hK => ?_) AllReadyH.nil)
                go_simp
                refine hK.out _ _ (And.intro (holds6 ((((Q10d.out.set _ _ _ NX10.out).set _ _ _ NX10.out).set _ _ _ NY10.out).set _ _ _ NY10.out)) (And.intro (Pair.out (Pair.far (Pair.set PX10d.out _ _) (by omega) _ _)) (frees4 ((((F10d.out.set _ _).set _ _).set _ _).set _ _)))) (fun hHeld => ?_)
                clear hK K
                (try simp only [Act.put, List.setIfInBounds_toArray, List.set_cons_zero, List.set_cons_succ])
                refine wpAnyH_done (by kernel_rfl) ?_ _
                refine NoPanic.normal ?_
                have kE : Below w9.heap.size w9 w10d := (((kb10aH.out.trans (kb10bH.out.mono (by have := kb10aH.out.size; omega))).trans (kb10cH.out.mono (by have := kb10aH.out.size; have := kb10bH.out.size; omega))).trans (kb10dH.out.mono (by have := kb10aH.out.size; have := kb10bH.out.size; have := kb10cH.out.size; omega)))
                have PXf := PX10d
                have Ff := F10d
                go_wp2_with fail
                go_meet
                exact ⟨(((((BB9.out.trans (kE.mono BB9.out.size)).setCell (p := ⟨X4, 0, none⟩) (by show _ ≤ X4; omega) _).setCell (p := ⟨X4, 1, none⟩) (by show _ ≤ X4; omega) _).setCell (p := ⟨X5, 0, none⟩) (by show _ ≤ X5; omega) _).setCell (p := ⟨X5, 1, none⟩) (by show _ ≤ X5; omega) _), Pair.far (Pair.set PXf.out _ _) (by omega) _ _, Pair.set (Pair.far (show Pair _ X5 _ _ from ⟨yy10d_c0, yy10d_c1⟩) (by omega) _ _) _ _, ((((HR.out.below kE).set _ _ _ NR4.out).set _ _ _ NR4.out).set _ _ _ NR5.out).set _ _ _ NR5.out, ((((HRF.out.below kE).set _ _).set _ _).set _ _).set _ _, by simp; have := kE.size; omega⟩
            · go_simp
              refine hK.out _ _ (And.intro (holds6 Q10a.out) (And.intro (Pair.out PX10a.out) (frees4 F10a.out))) (fun hHeld => ?_)
              clear hK K
              (try simp only [Act.put, List.setIfInBounds_toArray, List.set_cons_zero, List.set_cons_succ])
              refine wpAnyH_ready (rs := [4]) (by kernel_rfl) (by simp) (AllReadyH.cons (o := ({ dst := some 85, op := Op.call { callee := Callee.value (Operand.func 136), args := #[Operand.tmp 81, Operand.tmp 84], argTypes := #[203, 203] }, type := 203, pos := "drift.go:148", after := #[{ on := 0, ground := Ground.data }, { on := 3, ground := Ground.data }, { on := 3, ground := Ground.chain }], guard := none } : Oper)) rfl (fun K hK => ?_) AllReadyH.nil)
              go_simp
              (go_at_call 136; (with_reducible refine (Hg.out _).mono ?_); rintro e w10b ⟨rfl, hb10b⟩)
              have kb10b : Below w10a.heap.size w10a w10b := hb10b
              have Q10b := Lib.hid (Q10a.out.below kb10b)
              have F10b := Lib.hid (F10a.out.below kb10b)
              have PX10b := Lib.hid (PX10a.out.below lx10a kb10b)
              have yy10b_c0 := (kb10b.cell (p := ⟨X5, 0, none⟩) ly10a).trans yy10a_c0
              have yy10b_c1 := (kb10b.cell (p := ⟨X5, 1, none⟩) ly10a).trans yy10a_c1
              have lx10b := Nat.lt_of_lt_of_le lx10a kb10b.size
              have ly10b := Nat.lt_of_lt_of_le ly10a kb10b.size
              have kb10bH := Lib.hid kb10b
              clear kb10b hb10b
              refine hK.out _ _ (And.intro (holds6 Q10b.out) (And.intro (Pair.out PX10b.out) (frees4 F10b.out))) (fun hHeld => ?_)
              clear hK K
              (try simp only [Act.put, List.setIfInBounds_toArray, List.set_cons_zero, List.set_cons_succ])
              refine wpAnyH_ready (rs := [8]) (by kernel_rfl) (by simp) (AllReadyH.cons (o := ({ dst := some 89, op := Op.call { callee := Callee.value (Operand.func 134), args := #[Operand.tmp 87, Operand.tmp 88], argTypes := #[203, 203] }, type := 203, pos := "drift.go:148", after := #[{ on := 6, ground := Ground.data }, { on := 7, ground := Ground.data }, { on := 4, ground := Ground.chain }], guard := none } : Oper)) rfl (fun K hK => ?_) AllReadyH.nil)
              go_simp
              (go_at_call 134; (with_reducible refine (Hh.out _).mono ?_); rintro e w10c ⟨rfl, hb10c⟩)
              have kb10c : Below w10b.heap.size w10b w10c := hb10c
              have Q10c := Lib.hid (Q10b.out.below kb10c)
              have F10c := Lib.hid (F10b.out.below kb10c)
              have PX10c := Lib.hid (PX10b.out.below lx10b kb10c)
              have yy10c_c0 := (kb10c.cell (p := ⟨X5, 0, none⟩) ly10b).trans yy10b_c0
              have yy10c_c1 := (kb10c.cell (p := ⟨X5, 1, none⟩) ly10b).trans yy10b_c1
              have lx10c := Nat.lt_of_lt_of_le lx10b kb10c.size
              have ly10c := Nat.lt_of_lt_of_le ly10b kb10c.size
              have kb10cH := Lib.hid kb10c
              clear kb10c hb10c
              refine hK.out _ _ (And.intro (holds6 Q10c.out) (And.intro (Pair.out PX10c.out) (frees4 F10c.out))) (fun hHeld => ?_)
              clear hK K
              (try simp only [Act.put, List.setIfInBounds_toArray, List.set_cons_zero, List.set_cons_succ])
              refine wpAnyH_ready (rs := [9]) (by kernel_rfl) (by simp) (AllReadyH.cons (o := ({ dst := some 90, op := Op.call { callee := Callee.value (Operand.func 135), args := #[Operand.tmp 86, Operand.tmp 89], argTypes := #[203, 203] }, type := 203, pos := "drift.go:148", after := #[{ on := 5, ground := Ground.data }, { on := 8, ground := Ground.data }, { on := 8, ground := Ground.chain }], guard := none } : Oper)) rfl (fun K hK => ?_) AllReadyH.nil)
              go_simp
              (go_at_call 135; (with_reducible refine (Hi.out _).mono ?_); rintro e w10d ⟨rfl, hb10d⟩)
              have kb10d : Below w10c.heap.size w10c w10d := hb10d
              have Q10d := Lib.hid (Q10c.out.below kb10d)
              have F10d := Lib.hid (F10c.out.below kb10d)
              have PX10d := Lib.hid (PX10c.out.below lx10c kb10d)
              have yy10d_c0 := (kb10d.cell (p := ⟨X5, 0, none⟩) ly10c).trans yy10c_c0
              have yy10d_c1 := (kb10d.cell (p := ⟨X5, 1, none⟩) ly10c).trans yy10c_c1
              have lx10d := Nat.lt_of_lt_of_le lx10c kb10d.size
              have ly10d := Nat.lt_of_lt_of_le ly10c kb10d.size
              have kb10dH := Lib.hid kb10d
              clear kb10d hb10d
              refine hK.out _ _ (And.intro (holds6 Q10d.out) (And.intro (Pair.out PX10d.out) (frees4 F10d.out))) (fun hHeld => ?_)
              clear hK K
              (try simp only [Act.put, List.setIfInBounds_toArray, List.set_cons_zero, List.set_cons_succ])
              refine wpAnyH_ready (rs := [10]) (by kernel_rfl) (by simp) (AllReadyH.cons (o := ({ dst := none, op := Op.store 203 (Operand.tmp 21) (Operand.tmp 85), type := 0, pos := "drift.go:148", after := #[{ on := 4, ground := Ground.data }, { on := 9, ground := Ground.chain }, { on := 0, ground := Ground.phase }, { on := 1, ground := Ground.phase }, { on := 2, ground := Ground.phase }, { on := 3, ground := Ground.phase }, { on := 4, ground := Ground.phase }, { on := 5, ground := Ground.textOnly Departure.lateStores }, { on := 6, ground := Ground.textOnly Departure.lateStores }, { on := 7, ground := Ground.textOnly Departure.lateStores }, { on := 8, ground := Ground.textOnly Departure.lateStoresUnsure }, { on := 9, ground := Ground.textOnly Departure.lateStoresUnsure }], guard := none } : Oper)) rfl (fun K hK => ?_) AllReadyH.nil)
              go_simp
              refine hK.out _ _ (And.intro (holds6 ((Q10d.out.set _ _ _ NX10.out).set _ _ _ NX10.out)) (And.intro (Pair.out (Pair.set PX10d.out _ _)) (frees4 ((F10d.out.set _ _).set _ _)))) (fun hHeld => ?_)
              clear hK K
              (try simp only [Act.put, List.setIfInBounds_toArray, List.set_cons_zero, List.set_cons_succ])
              refine wpAnyH_ready (rs := [11]) (by kernel_rfl) (by simp) (AllReadyH.cons (o := ({ dst := none, op := Op.store 203 (Operand.tmp 22) (Operand.tmp 90), type := 0, pos := "drift.go:148", after := #[{ on := 9, ground := Ground.data }, { on := 10, ground := Ground.chain }, { on := 0, ground := Ground.phase }, { on := 1, ground := Ground.phase }, { on := 2, ground := Ground.phase }, { on := 3, ground := Ground.phase }, { on := 4, ground := Ground.phase }, { on := 5, ground := Ground.phase }, { on := 6, ground := Ground.phase }, { on := 7, ground := Ground.phase }, { on := 8, ground := Ground.phase }, { on := 9, ground := Ground.phase }, { on := 10, ground := Ground.phase }], guard := none } : Oper)) rfl (fun K hK => ?_) AllReadyH.nil)
              go_simp
              refine hK.out _ _ (And.intro (holds6 ((((Q10d.out.set _ _ _ NX10.out).set _ _ _ NX10.out).set _ _ _ NY10.out).set _ _ _ NY10.out)) (And.intro (Pair.out (Pair.far (Pair.set PX10d.out _ _) (by omega) _ _)) (frees4 ((((F10d.out.set _ _).set _ _).set _ _).set _ _)))) (fun hHeld => ?_)
              clear hK K
              (try simp only [Act.put, List.setIfInBounds_toArray, List.set_cons_zero, List.set_cons_succ])
              refine wpAnyH_done (by kernel_rfl) ?_ _
              refine NoPanic.normal ?_
              have kE : Below w9.heap.size w9 w10d := (((kb10aH.out.trans (kb10bH.out.mono (by have := kb10aH.out.size; omega))).trans (kb10cH.out.mono (by have := kb10aH.out.size; have := kb10bH.out.size; omega))).trans (kb10dH.out.mono (by have := kb10aH.out.size; have := kb10bH.out.size; have := kb10cH.out.size; omega)))
              have PXf := PX10d
              have Ff := F10d
              go_wp2_with fail
              go_meet
              exact ⟨(((((BB9.out.trans (kE.mono BB9.out.size)).setCell (p := ⟨X4, 0, none⟩) (by show _ ≤ X4; omega) _).setCell (p := ⟨X4, 1, none⟩) (by show _ ≤ X4; omega) _).setCell (p := ⟨X5, 0, none⟩) (by show _ ≤ X5; omega) _).setCell (p := ⟨X5, 1, none⟩) (by show _ ≤ X5; omega) _), Pair.far (Pair.set PXf.out _ _) (by omega) _ _, Pair.set (Pair.far (show Pair _ X5 _ _ from ⟨yy10d_c0, yy10d_c1⟩) (by omega) _ _) _ _, ((((HR.out.below kE).set _ _ _ NR4.out).set _ _ _ NR4.out).set _ _ _ NR5.out).set _ _ _ NR5.out, ((((HRF.out.below kE).set _ _).set _ _).set _ _).set _ _, by simp; have := kE.size; omega⟩
          · go_simp
            refine hK.out _ _ (And.intro (holds6 (Holds.drew Q10.out)) (And.intro (Pair.out (Pair.drew PX10.out)) (frees4 (Frees.drew F10.out)))) (fun hHeld => ?_)
            clear hK K
            (try simp only [Act.put, List.setIfInBounds_toArray, List.set_cons_zero, List.set_cons_succ])
            refine wpAnyH_ready (rs := [3]) (by kernel_rfl) (by simp) (AllReadyH.cons (o := ({ dst := some 84, op := Op.call { callee := Callee.value (Operand.func 134), args := #[Operand.tmp 82, Operand.tmp 83], argTypes := #[203, 203] }, type := 203, pos := "drift.go:148", after := #[{ on := 1, ground := Ground.data }, { on := 2, ground := Ground.data }], guard := none } : Oper)) rfl (fun K hK => ?_) AllReadyH.nil)
            go_simp
            (go_at_call 134; (with_reducible refine (Hf.out _).mono ?_); rintro e w10a ⟨rfl, hb10a⟩)
            have kb10a : Below w9.heap.size w9 w10a := below_of_drew hb10a
            have Q10a := Lib.hid (Q10.out.below kb10a)
            have F10a := Lib.hid (F10.out.below kb10a)
            have PX10a := Lib.hid (PX10.out.below yb10_3 kb10a)
            have yy10a_c0 := (kb10a.cell (p := ⟨X5, 0, none⟩) yb10_4).trans y_9c0
            have yy10a_c1 := (kb10a.cell (p := ⟨X5, 1, none⟩) yb10_4).trans y_9c1
            have lx10a := Nat.lt_of_lt_of_le yb10_3 kb10a.size
            have ly10a := Nat.lt_of_lt_of_le yb10_4 kb10a.size
            have kb10aH := Lib.hid kb10a
            clear kb10a hb10a
            refine hK.out _ _ (And.intro (holds6 Q10a.out) (And.intro (Pair.out PX10a.out) (frees4 F10a.out))) (fun hHeld => ?_)
            clear hK K
            (try simp only [Act.put, List.setIfInBounds_toArray, List.set_cons_zero, List.set_cons_succ])
            refine wpAnyH_ready (rs := [4]) (by kernel_rfl) (by simp) (AllReadyH.cons (o := ({ dst := some 85, op := Op.call { callee := Callee.value (Operand.func 136), args := #[Operand.tmp 81, Operand.tmp 84], argTypes := #[203, 203] }, type := 203, pos := "drift.go:148", after := #[{ on := 0, ground := Ground.data }, { on := 3, ground := Ground.data }, { on := 3, ground := Ground.chain }], guard := none } : Oper)) rfl (fun K hK => ?_) AllReadyH.nil)
            go_simp
            (go_at_call 136; (with_reducible refine (Hg.out _).mono ?_); rintro e w10b ⟨rfl, hb10b⟩)
            have kb10b : Below w10a.heap.size w10a w10b := hb10b
            have Q10b := Lib.hid (Q10a.out.below kb10b)
            have F10b := Lib.hid (F10a.out.below kb10b)
            have PX10b := Lib.hid (PX10a.out.below lx10a kb10b)
            have yy10b_c0 := (kb10b.cell (p := ⟨X5, 0, none⟩) ly10a).trans yy10a_c0
            have yy10b_c1 := (kb10b.cell (p := ⟨X5, 1, none⟩) ly10a).trans yy10a_c1
            have lx10b := Nat.lt_of_lt_of_le lx10a kb10b.size
            have ly10b := Nat.lt_of_lt_of_le ly10a kb10b.size
            have kb10bH := Lib.hid kb10b
            clear kb10b hb10b
            refine hK.out _ _ (And.intro (holds6 Q10b.out) (And.intro (Pair.out PX10b.out) (frees4 F10b.out))) (fun hHeld => ?_)
            clear hK K
            (try simp only [Act.put, List.setIfInBounds_toArray, List.set_cons_zero, List.set_cons_succ])
            refine wpAnyH_ready (rs := [8]) (by kernel_rfl) (by simp) (AllReadyH.cons (o := ({ dst := some 89, op := Op.call { callee := Callee.value (Operand.func 134), args := #[Operand.tmp 87, Operand.tmp 88], argTypes := #[203, 203] }, type := 203, pos := "drift.go:148", after := #[{ on := 6, ground := Ground.data }, { on := 7, ground := Ground.data }, { on := 4, ground := Ground.chain }], guard := none } : Oper)) rfl (fun K hK => ?_) AllReadyH.nil)
            go_simp
            (go_at_call 134; (with_reducible refine (Hh.out _).mono ?_); rintro e w10c ⟨rfl, hb10c⟩)
            have kb10c : Below w10b.heap.size w10b w10c := hb10c
            have Q10c := Lib.hid (Q10b.out.below kb10c)
            have F10c := Lib.hid (F10b.out.below kb10c)
            have PX10c := Lib.hid (PX10b.out.below lx10b kb10c)
            have yy10c_c0 := (kb10c.cell (p := ⟨X5, 0, none⟩) ly10b).trans yy10b_c0
            have yy10c_c1 := (kb10c.cell (p := ⟨X5, 1, none⟩) ly10b).trans yy10b_c1
            have lx10c := Nat.lt_of_lt_of_le lx10b kb10c.size
            have ly10c := Nat.lt_of_lt_of_le ly10b kb10c.size
            have kb10cH := Lib.hid kb10c
            clear kb10c hb10c
            refine hK.out _ _ (And.intro (holds6 Q10c.out) (And.intro (Pair.out PX10c.out) (frees4 F10c.out))) (fun hHeld => ?_)
            clear hK K
            (try simp only [Act.put, List.setIfInBounds_toArray, List.set_cons_zero, List.set_cons_succ])
            refine wpAnyH_ready (rs := [9]) (by kernel_rfl) (by simp) (AllReadyH.cons (o := ({ dst := some 90, op := Op.call { callee := Callee.value (Operand.func 135), args := #[Operand.tmp 86, Operand.tmp 89], argTypes := #[203, 203] }, type := 203, pos := "drift.go:148", after := #[{ on := 5, ground := Ground.data }, { on := 8, ground := Ground.data }, { on := 8, ground := Ground.chain }], guard := none } : Oper)) rfl (fun K hK => ?_) AllReadyH.nil)
            go_simp
            (go_at_call 135; (with_reducible refine (Hi.out _).mono ?_); rintro e w10d ⟨rfl, hb10d⟩)
            have kb10d : Below w10c.heap.size w10c w10d := hb10d
            have Q10d := Lib.hid (Q10c.out.below kb10d)
            have F10d := Lib.hid (F10c.out.below kb10d)
            have PX10d := Lib.hid (PX10c.out.below lx10c kb10d)
            have yy10d_c0 := (kb10d.cell (p := ⟨X5, 0, none⟩) ly10c).trans yy10c_c0
            have yy10d_c1 := (kb10d.cell (p := ⟨X5, 1, none⟩) ly10c).trans yy10c_c1
            have lx10d := Nat.lt_of_lt_of_le lx10c kb10d.size
            have ly10d := Nat.lt_of_lt_of_le ly10c kb10d.size
            have kb10dH := Lib.hid kb10d
            clear kb10d hb10d
            refine hK.out _ _ (And.intro (holds6 Q10d.out) (And.intro (Pair.out PX10d.out) (frees4 F10d.out))) (fun hHeld => ?_)
            clear hK K
            (try simp only [Act.put, List.setIfInBounds_toArray, List.set_cons_zero, List.set_cons_succ])
            refine wpAnyH_ready (rs := [10]) (by kernel_rfl) (by simp) (AllReadyH.cons (o := ({ dst := none, op := Op.store 203 (Operand.tmp 21) (Operand.tmp 85), type := 0, pos := "drift.go:148", after := #[{ on := 4, ground := Ground.data }, { on := 9, ground := Ground.chain }, { on := 0, ground := Ground.phase }, { on := 1, ground := Ground.phase }, { on := 2, ground := Ground.phase }, { on := 3, ground := Ground.phase }, { on := 4, ground := Ground.phase }, { on := 5, ground := Ground.textOnly Departure.lateStores }, { on := 6, ground := Ground.textOnly Departure.lateStores }, { on := 7, ground := Ground.textOnly Departure.lateStores }, { on := 8, ground := Ground.textOnly Departure.lateStoresUnsure }, { on := 9, ground := Ground.textOnly Departure.lateStoresUnsure }], guard := none } : Oper)) rfl (fun K hK => ?_) AllReadyH.nil)
            go_simp
            refine hK.out _ _ (And.intro (holds6 ((Q10d.out.set _ _ _ NX10.out).set _ _ _ NX10.out)) (And.intro (Pair.out (Pair.set PX10d.out _ _)) (frees4 ((F10d.out.set _ _).set _ _)))) (fun hHeld => ?_)
            clear hK K
            (try simp only [Act.put, List.setIfInBounds_toArray, List.set_cons_zero, List.set_cons_succ])
            refine wpAnyH_ready (rs := [11]) (by kernel_rfl) (by simp) (AllReadyH.cons (o := ({ dst := none, op := Op.store 203 (Operand.tmp 22) (Operand.tmp 90), type := 0, pos := "drift.go:148", after := #[{ on := 9, ground := Ground.data }, { on := 10, ground := Ground.chain }, { on := 0, ground := Ground.phase }, { on := 1, ground := Ground.phase }, { on := 2, ground := Ground.phase }, { on := 3, ground := Ground.phase }, { on := 4, ground := Ground.phase }, { on := 5, ground := Ground.phase }, { on := 6, ground := Ground.phase }, { on := 7, ground := Ground.phase }, { on := 8, ground := Ground.phase }, { on := 9, ground := Ground.phase }, { on := 10, ground := Ground.phase }], guard := none } : Oper)) rfl (fun K hK => ?_) AllReadyH.nil)
            go_simp
            refine hK.out _ _ (And.intro (holds6 ((((Q10d.out.set _ _ _ NX10.out).set _ _ _ NX10.out).set _ _ _ NY10.out).set _ _ _ NY10.out)) (And.intro (Pair.out (Pair.far (Pair.set PX10d.out _ _) (by omega) _ _)) (frees4 ((((F10d.out.set _ _).set _ _).set _ _).set _ _)))) (fun hHeld => ?_)
            clear hK K
            (try simp only [Act.put, List.setIfInBounds_toArray, List.set_cons_zero, List.set_cons_succ])
            refine wpAnyH_done (by kernel_rfl) ?_ _
            refine NoPanic.normal ?_
            have kE : Below w9.heap.size w9 w10d := (((kb10aH.out.trans (kb10bH.out.mono (by have := kb10aH.out.size; omega))).trans (kb10cH.out.mono (by have := kb10aH.out.size; have := kb10bH.out.size; omega))).trans (kb10dH.out.mono (by have := kb10aH.out.size; have := kb10bH.out.size; have := kb10cH.out.size; omega)))
            have PXf := PX10d
            have Ff := F10d
            go_wp2_with fail
            go_meet
            exact ⟨(((((BB9.out.trans (kE.mono BB9.out.size)).setCell (p := ⟨X4, 0, none⟩) (by show _ ≤ X4; omega) _).setCell (p := ⟨X4, 1, none⟩) (by show _ ≤ X4; omega) _).setCell (p := ⟨X5, 0, none⟩) (by show _ ≤ X5; omega) _).setCell (p := ⟨X5, 1, none⟩) (by show _ ≤ X5; omega) _), Pair.far (Pair.set PXf.out _ _) (by omega) _ _, Pair.set (Pair.far (show Pair _ X5 _ _ from ⟨yy10d_c0, yy10d_c1⟩) (by omega) _ _) _ _, ((((HR.out.below kE).set _ _ _ NR4.out).set _ _ _ NR4.out).set _ _ _ NR5.out).set _ _ _ NR5.out, ((((HRF.out.below kE).set _ _).set _ _).set _ _).set _ _, by simp; have := kE.size; omega⟩
        case rest =>
          obtain ⟨w11, hwc⟩ : ∃ z, z = wc := ⟨_, rfl⟩
          subst hwc
          obtain ⟨kb, px, py, hr, hf, hz⟩ := hcut
          clear HR HRF NR4 NR5 BB9 res_9c0 res_9c1 res_9c2 res_9c3 res_9f0 res_9f1 res_9f2 res_9f3 a_9c0 a_9c1 b_9c0 b_9c1 cr_9c0 cr_9c1 x_9c0 x_9c1 x_9f0 x_9f1 y_9c0 y_9c1 y_9f0 y_9f1
          have BB11 := Lib.hid kb
          obtain ⟨x_11c0, x_11c1⟩ := px
          obtain ⟨y_11c0, y_11c1⟩ := py
          obtain ⟨res_11c0, res_11c1, res_11c2, res_11c3⟩ := holds4 hr
          obtain ⟨res_11f0, res_11f1, res_11f2, res_11f3⟩ := frees4 hf
          have HRT := Lib.hid hr
          clear kb hr hf
          go_upto_region 10 with fail
          have Ha := Lib.hid fl_a
          have Hb := Lib.hid fl_b
          have Hc := Lib.hid fl_c
          have vw0 : IntKind.i64.wrap (100000000 : Int) = 100000000 := by decide +kernel
          have vw1 : IntKind.i64.wrap (50000000 : Int) = 50000000 := by decide +kernel
          have vw2 : IntKind.i64.wrap (-100000000 : Int) = -100000000 := by decide +kernel
          have vw3 : IntKind.i64.wrap (-50000000 : Int) = -50000000 := by decide +kernel
          have vw4 : IntKind.i64.wrap (-100000 : Int) = -100000 := by decide +kernel
          have vw5 : IntKind.i64.wrap (100000 : Int) = 100000 := by decide +kernel
          have vw6 : IntKind.i64.wrap (50000 : Int) = 50000 := by decide +kernel
          have vw7 : IntKind.i64.wrap (-50000 : Int) = -50000 := by decide +kernel
          have vw8 : IntKind.i64.wrap (100 : Int) = 100 := by decide +kernel
          have vw9 : IntKind.i64.wrap (-100 : Int) = -100 := by decide +kernel
          have vw10 : IntKind.i64.wrap (50 : Int) = 50 := by decide +kernel
          have vw11 : IntKind.i64.wrap (-50 : Int) = -50 := by decide +kernel
          have NR := Lib.hid (show ∀ z, z ∈ ([(X4, 0, .int .i64 100000), (X4, 1, .int .i64 100000), (X5, 0, .int .i64 50000), (X5, 1, .int .i64 100000)] : List (Nat × Nat × Value)) → z.1 ≠ Z + 1 + 1 from (by intro z hz; simp at hz; rcases hz with rfl | rfl | rfl | rfl <;> (show _ ≠ _; omega)))
          have yb12_0 : X4 < w11.heap.size := by omega
          have yb12_1 : X5 < w11.heap.size := by omega
          have yb12_2 : Z + 1 + 1 < w11.heap.size := by omega
          have Q12 := Lib.hid (show Holds w11 [(X4, 0, .int .i64 100000), (X4, 1, .int .i64 100000), (X5, 0, .int .i64 50000), (X5, 1, .int .i64 100000)] from (.cons yb12_0 x_11c0 (.cons yb12_0 x_11c1 (.cons yb12_1 y_11c0 (.cons yb12_1 y_11c1 (.nil _))))))
          have F12 := Lib.hid (show Frees w11 [(Z + 1 + 1, 0), (Z + 1 + 1, 1), (Z + 1 + 1, 2), (Z + 1 + 1, 3)] from (.cons yb12_2 res_11f0 (.cons yb12_2 res_11f1 (.cons yb12_2 res_11f2 (.cons yb12_2 res_11f3 (.nil _))))))
          clear yb12_0 yb12_1 yb12_2
          go_region_held3 (fun W' => (W'.cell? ⟨X4, 0, none⟩ = some (.int .i64 100000) ∧ W'.cell? ⟨X4, 1, none⟩ = some (.int .i64 100000) ∧ W'.cell? ⟨X5, 0, none⟩ = some (.int .i64 50000) ∧ W'.cell? ⟨X5, 1, none⟩ = some (.int .i64 100000)) ∧ (W'.frozen? ⟨Z + 1 + 1, 0, none⟩ = false ∧ W'.frozen? ⟨Z + 1 + 1, 1, none⟩ = false ∧ W'.frozen? ⟨Z + 1 + 1, 2, none⟩ = false ∧ W'.frozen? ⟨Z + 1 + 1, 3, none⟩ = false))
            (first | with_reducible exact And.intro (holds4 Q12.out) (frees4 F12.out) | with_reducible exact And.intro (holds4 (.drew Q12.out)) (frees4 (.drew F12.out)) | with_reducible exact And.intro (holds4 (.drew (Q12.out.alloc _))) (frees4 (.drew (F12.out.alloc _))) | with_reducible exact And.intro (holds4 (.drew ((Q12.out.alloc _).alloc _))) (frees4 (.drew ((F12.out.alloc _).alloc _))) | with_reducible exact And.intro (holds4 Q12a.out) (frees4 F12a.out) | with_reducible exact And.intro (holds4 Q12b.out) (frees4 F12b.out) | with_reducible exact And.intro (holds4 Q12c.out) (frees4 F12c.out) | with_reducible exact And.intro (holds4 Q12d.out) (frees4 F12d.out) | exact And.intro (holds4 ((((Q12d.out.set _ _ _ NR.out).set _ _ _ NR.out).set _ _ _ NR.out).set _ _ _ NR.out)) (frees4 ((((F12d.out.set _ _).set _ _).set _ _).set _ _)) | fail)
            (first | (go_at_call 137; (with_reducible refine (Ha.out _).mono ?_); rintro e w12a ⟨rfl, hb12a⟩; with_reducible (first | (have kb12a : Below w11.heap.size w11 w12a := below_plain hb12a) | (have kb12a : Below w11.heap.size w11 w12a := below_of_drew hb12a)); have Q12a := Lib.hid (Q12.out.below kb12a); have F12a := Lib.hid (F12.out.below kb12a); have HRT := Lib.hid (HRT.out.below kb12a); have kb12aH := Lib.hid kb12a; clear kb12a hb12a; skip) | (go_at_call 137; (with_reducible refine (Hb.out _).mono ?_); rintro e w12b ⟨rfl, hb12b⟩; with_reducible (first | (have kb12b : Below w12a.heap.size w12a w12b := below_plain hb12b) | (have kb12b : Below w12a.heap.size w12a w12b := below_of_drew hb12b)); have Q12b := Lib.hid (Q12a.out.below kb12b); have F12b := Lib.hid (F12a.out.below kb12b); have HRT := Lib.hid (HRT.out.below kb12b); have kb12bH := Lib.hid kb12b; clear kb12b hb12b; skip) | (go_at_call 137; (with_reducible refine (Hc.out _).mono ?_); rintro e w12c ⟨rfl, hb12c⟩; with_reducible (first | (have kb12c : Below w12b.heap.size w12b w12c := below_plain hb12c) | (have kb12c : Below w12b.heap.size w12b w12c := below_of_drew hb12c)); have Q12c := Lib.hid (Q12b.out.below kb12c); have F12c := Lib.hid (F12b.out.below kb12c); have HRT := Lib.hid (HRT.out.below kb12c); have kb12cH := Lib.hid kb12c; clear kb12c hb12c; skip) | (go_at_call 137; (with_reducible refine (Hc.out _).mono ?_); rintro e w12d ⟨rfl, hb12d⟩; with_reducible (first | (have kb12d : Below w12c.heap.size w12c w12d := below_plain hb12d) | (have kb12d : Below w12c.heap.size w12c w12d := below_of_drew hb12d)); have Q12d := Lib.hid (Q12c.out.below kb12d); have F12d := Lib.hid (F12c.out.below kb12d); have HRT := Lib.hid (HRT.out.below kb12d); obtain ⟨rc0, rc1, rc2, rc3⟩ := holds4 HRT.out; have kb12dH := Lib.hid kb12d; clear kb12d hb12d; skip))
          rename_i hHeld
          clear hHeld
          have ss12a := kb12aH.out.size
          have ss12b := kb12bH.out.size
          have ss12c := kb12cH.out.size
          have ss12d := kb12dH.out.size
          have k12 : Below w11.heap.size w11 w12d := (((kb12aH.out.trans (kb12bH.out.mono (by omega))).trans (kb12cH.out.mono (by omega))).trans (kb12dH.out.mono (by omega)))
          clear kb12aH kb12bH kb12cH kb12dH Q12 Q12a Q12b Q12c Q12d F12 F12a F12b F12c F12d
          have S12 := k12.size
          have x_12c0 := (k12.cell (p := ⟨X4, 0, none⟩) (by show X4 < _; omega)).trans x_11c0
          have x_12c1 := (k12.cell (p := ⟨X4, 1, none⟩) (by show X4 < _; omega)).trans x_11c1
          have y_12c0 := (k12.cell (p := ⟨X5, 0, none⟩) (by show X5 < _; omega)).trans y_11c0
          have y_12c1 := (k12.cell (p := ⟨X5, 1, none⟩) (by show X5 < _; omega)).trans y_11c1
          have res_12c0 := (k12.cell (p := ⟨Z + 1 + 1, 0, none⟩) (by show Z + 1 + 1 < _; omega)).trans res_11c0
          have res_12c1 := (k12.cell (p := ⟨Z + 1 + 1, 1, none⟩) (by show Z + 1 + 1 < _; omega)).trans res_11c1
          have res_12c2 := (k12.cell (p := ⟨Z + 1 + 1, 2, none⟩) (by show Z + 1 + 1 < _; omega)).trans res_11c2
          have res_12c3 := (k12.cell (p := ⟨Z + 1 + 1, 3, none⟩) (by show Z + 1 + 1 < _; omega)).trans res_11c3
          have res_12f0 := (k12.frozen (p := ⟨Z + 1 + 1, 0, none⟩) (by show Z + 1 + 1 < _; omega)).trans res_11f0
          have res_12f1 := (k12.frozen (p := ⟨Z + 1 + 1, 1, none⟩) (by show Z + 1 + 1 < _; omega)).trans res_11f1
          have res_12f2 := (k12.frozen (p := ⟨Z + 1 + 1, 2, none⟩) (by show Z + 1 + 1 < _; omega)).trans res_11f2
          have res_12f3 := (k12.frozen (p := ⟨Z + 1 + 1, 3, none⟩) (by show Z + 1 + 1 < _; omega)).trans res_11f3
          have BB12 := Lib.hid (BB11.out.trans (k12.mono BB11.out.size))
          clear k12 x_11c0 x_11c1 y_11c0 y_11c1 res_11c0 res_11c1 res_11c2 res_11c3 res_11f0 res_11f1 res_11f2 res_11f3 BB11
          go_wp2_with fail
          refine bodyPost_ret (v := .tuple #[.agg #[.int .i64 100, .int .i64 50, .int .i64 100, .int .i64 100], .bool true]) (by simp [results, Try.results97, go_sem, res_12c0, res_12c1, res_12c2, res_12c3]) rfl ⟨rfl, ((((BB12.out.setCell (p := ⟨Z + 1 + 1, 0, none⟩) (by show _ ≤ Z + 1 + 1; omega) _).setCell (p := ⟨Z + 1 + 1, 1, none⟩) (by show _ ≤ Z + 1 + 1; omega) _).setCell (p := ⟨Z + 1 + 1, 2, none⟩) (by show _ ≤ Z + 1 + 1; omega) _).setCell (p := ⟨Z + 1 + 1, 3, none⟩) (by show _ ≤ Z + 1 + 1; omega) _)⟩
      · subst hs0 hs1 hs2
        clear HS
        go_upto_region 9 with fail
        have x54 : X5 ≠ X4 := Ne.symm x45
        have yr : Z + 1 + 1 < w9.heap.size := by omega
        have HR := Lib.hid (show Holds w9 [(Z + 1 + 1, 0, .int .i64 0), (Z + 1 + 1, 1, .int .i64 0), (Z + 1 + 1, 2, .int .i64 0), (Z + 1 + 1, 3, .int .i64 0)] from .cons yr res_9c0 (.cons yr res_9c1 (.cons yr res_9c2 (.cons yr res_9c3 (.nil _)))))
        have HRF := Lib.hid (show Frees w9 [(Z + 1 + 1, 0), (Z + 1 + 1, 1), (Z + 1 + 1, 2), (Z + 1 + 1, 3)] from .cons yr res_9f0 (.cons yr res_9f1 (.cons yr res_9f2 (.cons yr res_9f3 (.nil _)))))
        have NR4 := Lib.hid (show ∀ z, z ∈ ([(Z + 1 + 1, 0, .int .i64 0), (Z + 1 + 1, 1, .int .i64 0), (Z + 1 + 1, 2, .int .i64 0), (Z + 1 + 1, 3, .int .i64 0)] : List (Nat × Nat × Value)) → z.1 ≠ X4 from (by intro z hz; simp at hz; rcases hz with rfl | rfl | rfl | rfl <;> (show _ ≠ _; omega)))
        have NR5 := Lib.hid (show ∀ z, z ∈ ([(Z + 1 + 1, 0, .int .i64 0), (Z + 1 + 1, 1, .int .i64 0), (Z + 1 + 1, 2, .int .i64 0), (Z + 1 + 1, 3, .int .i64 0)] : List (Nat × Nat × Value)) → z.1 ≠ X5 from (by intro z hz; simp at hz; rcases hz with rfl | rfl | rfl | rfl <;> (show _ ≠ _; omega)))
        go_cut [] from 91 to 100 (fun wx => Below w.heap.size w wx ∧ Pair wx X4 (.int .i64 100000) (.int .i64 100000) ∧ Pair wx X5 (.int .i64 (-100000)) (.int .i64 (-50000)) ∧ Holds wx [(Z + 1 + 1, 0, .int .i64 0), (Z + 1 + 1, 1, .int .i64 0), (Z + 1 + 1, 2, .int .i64 0), (Z + 1 + 1, 3, .int .i64 0)] ∧ Frees wx [(Z + 1 + 1, 0), (Z + 1 + 1, 1), (Z + 1 + 1, 2), (Z + 1 + 1, 3)] ∧ w9.heap.size ≤ wx.heap.size)
        case first =>
          have Hf := Lib.hid ar_f
          have Hg := Lib.hid ar_j
          have Hh := Lib.hid ar_h
          have Hi := Lib.hid ar_k
          have yb13_0 : Q < w9.heap.size := by omega
          have yb13_1 : Q + 1 < w9.heap.size := by omega
          have yb13_2 : X3 < w9.heap.size := by omega
          have yb13_3 : X4 < w9.heap.size := by omega
          have yb13_4 : X5 < w9.heap.size := by omega
          have Q13 := Lib.hid (show Holds w9 [(Q + 1, 0, .int .i64 0), (Q + 1, 1, .int .i64 0), (Q, 0, .int .i64 5000), (Q, 1, .int .i64 5000), (X3, 0, .int .i64 10), (X3, 1, .int .i64 20)] from (.cons yb13_1 b_9c0 (.cons yb13_1 b_9c1 (.cons yb13_0 a_9c0 (.cons yb13_0 a_9c1 (.cons yb13_2 cr_9c0 (.cons yb13_2 cr_9c1 (.nil _))))))))
          have PX13 := Lib.hid (show Pair w9 X4 (.int .i64 100000) (.int .i64 100000) from ⟨x_9c0, x_9c1⟩)
          have F13 := Lib.hid (show Frees w9 [(X4, 0), (X4, 1), (X5, 0), (X5, 1)] from .cons yb13_3 x_9f0 (.cons yb13_3 x_9f1 (.cons yb13_4 y_9f0 (.cons yb13_4 y_9f1 (.nil _)))))
          have NX13 := Lib.hid (show ∀ z, z ∈ ([(Q + 1, 0, .int .i64 0), (Q + 1, 1, .int .i64 0), (Q, 0, .int .i64 5000), (Q, 1, .int .i64 5000), (X3, 0, .int .i64 10), (X3, 1, .int .i64 20)] : List (Nat × Nat × Value)) → z.1 ≠ X4 from (by intro z hz; simp at hz; rcases hz with rfl | rfl | rfl | rfl | rfl | rfl <;> (show _ ≠ _; omega)))
          have NY13 := Lib.hid (show ∀ z, z ∈ ([(Q + 1, 0, .int .i64 0), (Q + 1, 1, .int .i64 0), (Q, 0, .int .i64 5000), (Q, 1, .int .i64 5000), (X3, 0, .int .i64 10), (X3, 1, .int .i64 20)] : List (Nat × Nat × Value)) → z.1 ≠ X5 from (by intro z hz; simp at hz; rcases hz with rfl | rfl | rfl | rfl | rfl | rfl <;> (show _ ≠ _; omega)))
          have yd13c0 : w9.drew.cell? ⟨X5, 0, none⟩ = some (.int .i64 0) := y_9c0
          have yd13c1 : w9.drew.cell? ⟨X5, 1, none⟩ = some (.int .i64 0) := y_9c1
          refine wp_region_noPanic ?_
          refine wp_region_held_drew (S := fun W' => (W'.cell? ⟨Q + 1, 0, none⟩ = some (.int .i64 0) ∧ W'.cell? ⟨Q + 1, 1, none⟩ = some (.int .i64 0) ∧ W'.cell? ⟨Q, 0, none⟩ = some (.int .i64 5000) ∧ W'.cell? ⟨Q, 1, none⟩ = some (.int .i64 5000) ∧ W'.cell? ⟨X3, 0, none⟩ = some (.int .i64 10) ∧ W'.cell? ⟨X3, 1, none⟩ = some (.int .i64 20)) ∧ (W'.cell? ⟨X4, 0, none⟩ = some (.int .i64 100000) ∧ W'.cell? ⟨X4, 1, none⟩ = some (.int .i64 100000)) ∧ (W'.frozen? ⟨X4, 0, none⟩ = false ∧ W'.frozen? ⟨X4, 1, none⟩ = false ∧ W'.frozen? ⟨X5, 0, none⟩ = false ∧ W'.frozen? ⟨X5, 1, none⟩ = false)) (by kernel_rfl) (And.intro (holds6 (Holds.drew Q13.out)) (And.intro (Pair.out (Pair.drew PX13.out)) (frees4 (Frees.drew F13.out)))) (fun hHeld => ?_)
          refine wpAnyH_take (i := 0) (oi := ({ dst := some 91, op := Op.load 203 (Operand.tmp 21), type := 203, pos := "drift.go:150", after := #[], guard := none } : Oper)) (v := ?_) rfl (by kernel_rfl) (by kernel_rfl) (by kernel_rfl) (fun _ _ _ h => h) (Or.inl ⟨by rfl, ?_⟩) (by assumption) ?_
          rotate_left
          · ((intro w hSw; (try dsimp only at hSw); go_split_ands; go_simp); try with_reducible rfl)
          (try simp only [Act.put, List.setIfInBounds_toArray, List.set_cons_zero, List.set_cons_succ])
          refine wpAnyH_take (i := 1) (oi := ({ dst := some 92, op := Op.load 203 (Operand.tmp 16), type := 203, pos := "drift.go:150", after := #[], guard := none } : Oper)) (v := ?_) rfl (by kernel_rfl) (by kernel_rfl) (by kernel_rfl) (fun _ _ _ h => h) (Or.inl ⟨by rfl, ?_⟩) (by assumption) ?_
          rotate_left
          · ((intro w hSw; (try dsimp only at hSw); go_split_ands; go_simp); try with_reducible rfl)
          (try simp only [Act.put, List.setIfInBounds_toArray, List.set_cons_zero, List.set_cons_succ])
          refine wpAnyH_take (i := 2) (oi := ({ dst := some 93, op := Op.load 203 (Operand.tmp 20), type := 203, pos := "drift.go:150", after := #[], guard := none } : Oper)) (v := ?_) rfl (by kernel_rfl) (by kernel_rfl) (by kernel_rfl) (fun _ _ _ h => h) (Or.inl ⟨by rfl, ?_⟩) (by assumption) ?_
          rotate_left
          · ((intro w hSw; (try dsimp only at hSw); go_split_ands; go_simp); try with_reducible rfl)
          (try simp only [Act.put, List.setIfInBounds_toArray, List.set_cons_zero, List.set_cons_succ])
          refine wpAnyH_take (i := 6) (oi := ({ dst := some 97, op := Op.load 203 (Operand.tmp 15), type := 203, pos := "drift.go:150", after := #[], guard := none } : Oper)) (v := ?_) rfl (by kernel_rfl) (by kernel_rfl) (by kernel_rfl) (fun _ _ _ h => h) (Or.inl ⟨by rfl, ?_⟩) (by assumption) ?_
          rotate_left
          · ((intro w hSw; (try dsimp only at hSw); go_split_ands; go_simp); try with_reducible rfl)
          (try simp only [Act.put, List.setIfInBounds_toArray, List.set_cons_zero, List.set_cons_succ])
          refine wpAnyH_take (i := 7) (oi := ({ dst := some 98, op := Op.load 203 (Operand.tmp 20), type := 203, pos := "drift.go:150", after := #[], guard := none } : Oper)) (v := ?_) rfl (by kernel_rfl) (by kernel_rfl) (by kernel_rfl) (fun _ _ _ h => h) (Or.inl ⟨by rfl, ?_⟩) (by assumption) ?_
          rotate_left
          · ((intro w hSw; (try dsimp only at hSw); go_split_ands; go_simp); try with_reducible rfl)
          (try simp only [Act.put, List.setIfInBounds_toArray, List.set_cons_zero, List.set_cons_succ])
          refine wpAnyH_ready (rs := [3, 5]) (by kernel_rfl) (by simp) (AllReadyH.cons (o := ({ dst := some 94, op := Op.call { callee := Callee.value (Operand.func 134), args := #[Operand.tmp 92, Operand.tmp 93], argTypes := #[203, 203] }, type := 203, pos := "drift.go:150", after := #[{ on := 1, ground := Ground.data }, { on := 2, ground := Ground.data }], guard := none } : Oper)) rfl (fun K hK => ?_) (AllReadyH.cons (o := ({ dst := some 96, op := Op.load 203 (Operand.tmp 22), type := 203, pos := "drift.go:150", after := #[], guard := none } : Oper)) rfl (fun K hK => ?_) AllReadyH.nil))
          · go_simp
            (go_at_call 134; (with_reducible refine (Hf.out _).mono ?_); rintro e w13a ⟨rfl, hb13a⟩)
            have kb13a : Below w9.heap.size w9 w13a := below_of_drew hb13a
            have Q13a := Lib.hid (Q13.out.below kb13a)
            have F13a := Lib.hid (F13.out.below kb13a)
            have PX13a := Lib.hid (PX13.out.below yb13_3 kb13a)
            have yy13a_c0 := (kb13a.cell (p := ⟨X5, 0, none⟩) yb13_4).trans y_9c0
            have yy13a_c1 := (kb13a.cell (p := ⟨X5, 1, none⟩) yb13_4).trans y_9c1
            have lx13a := Nat.lt_of_lt_of_le yb13_3 kb13a.size
            have ly13a := Nat.lt_of_lt_of_le yb13_4 kb13a.size
            have kb13aH := Lib.hid kb13a
            clear kb13a hb13a
            refine hK.out _ _ (And.intro (holds6 Q13a.out) (And.intro (Pair.out PX13a.out) (frees4 F13a.out))) (fun hHeld => ?_)
            clear hK K
            (try simp only [Act.put, List.setIfInBounds_toArray, List.set_cons_zero, List.set_cons_succ])
            refine wpAnyH_ready (rs := [4, 5]) (by kernel_rfl) (by simp) (AllReadyH.cons (o := ({ dst := some 95, op := Op.call { callee := Callee.value (Operand.func 135), args := #[Operand.tmp 91, Operand.tmp 94], argTypes := #[203, 203] }, type := 203, pos := "drift.go:150", after := #[{ on := 0, ground := Ground.data }, { on := 3, ground := Ground.data }, { on := 3, ground := Ground.chain }], guard := none } : Oper)) rfl (fun K hK => ?_) (AllReadyH.cons (o := ({ dst := some 96, op := Op.load 203 (Operand.tmp 22), type := 203, pos := "drift.go:150", after := #[], guard := none } : Oper)) rfl (fun K hK => ?_) AllReadyH.nil))
            · go_simp
              (go_at_call 135; (with_reducible refine (Hg.out _).mono ?_); rintro e w13b ⟨rfl, hb13b⟩)
              have kb13b : Below w13a.heap.size w13a w13b := hb13b
              have Q13b := Lib.hid (Q13a.out.below kb13b)
              have F13b := Lib.hid (F13a.out.below kb13b)
              have PX13b := Lib.hid (PX13a.out.below lx13a kb13b)
              have yy13b_c0 := (kb13b.cell (p := ⟨X5, 0, none⟩) ly13a).trans yy13a_c0
              have yy13b_c1 := (kb13b.cell (p := ⟨X5, 1, none⟩) ly13a).trans yy13a_c1
              have lx13b := Nat.lt_of_lt_of_le lx13a kb13b.size
              have ly13b := Nat.lt_of_lt_of_le ly13a kb13b.size
              have kb13bH := Lib.hid kb13b
              clear kb13b hb13b
              refine hK.out _ _ (And.intro (holds6 Q13b.out) (And.intro (Pair.out PX13b.out) (frees4 F13b.out))) (fun hHeld => ?_)
              clear hK K
              (try simp only [Act.put, List.setIfInBounds_toArray, List.set_cons_zero, List.set_cons_succ])
              refine wpAnyH_ready (rs := [5, 8]) (by kernel_rfl) (by simp) (AllReadyH.cons (o := ({ dst := some 96, op := Op.load 203 (Operand.tmp 22), type := 203, pos := "drift.go:150", after := #[], guard := none } : Oper)) rfl (fun K hK => ?_) (AllReadyH.cons (o := ({ dst := some 99, op := Op.call { callee := Callee.value (Operand.func 134), args := #[Operand.tmp 97, Operand.tmp 98], argTypes := #[203, 203] }, type := 203, pos := "drift.go:150", after := #[{ on := 6, ground := Ground.data }, { on := 7, ground := Ground.data }, { on := 4, ground := Ground.chain }], guard := none } : Oper)) rfl (fun K hK => ?_) AllReadyH.nil))
              · go_simp
                refine hK.out _ _ (And.intro (holds6 Q13b.out) (And.intro (Pair.out PX13b.out) (frees4 F13b.out))) (fun hHeld => ?_)
                clear hK K
                (try simp only [Act.put, List.setIfInBounds_toArray, List.set_cons_zero, List.set_cons_succ])
                refine wpAnyH_ready (rs := [8]) (by kernel_rfl) (by simp) (AllReadyH.cons (o := ({ dst := some 99, op := Op.call { callee := Callee.value (Operand.func 134), args := #[Operand.tmp 97, Operand.tmp 98], argTypes := #[203, 203] }, type := 203, pos := "drift.go:150", after := #[{ on := 6, ground := Ground.data }, { on := 7, ground := Ground.data }, { on := 4, ground := Ground.chain }], guard := none } : Oper)) rfl (fun K hK => ?_) AllReadyH.nil)
                go_simp
                (go_at_call 134; (with_reducible refine (Hh.out _).mono ?_); rintro e w13c ⟨rfl, hb13c⟩)
                have kb13c : Below w13b.heap.size w13b w13c := hb13c
                have Q13c := Lib.hid (Q13b.out.below kb13c)
                have F13c := Lib.hid (F13b.out.below kb13c)
                have PX13c := Lib.hid (PX13b.out.below lx13b kb13c)
                have yy13c_c0 := (kb13c.cell (p := ⟨X5, 0, none⟩) ly13b).trans yy13b_c0
                have yy13c_c1 := (kb13c.cell (p := ⟨X5, 1, none⟩) ly13b).trans yy13b_c1
                have lx13c := Nat.lt_of_lt_of_le lx13b kb13c.size
                have ly13c := Nat.lt_of_lt_of_le ly13b kb13c.size
                have kb13cH := Lib.hid kb13c
                clear kb13c hb13c
                refine hK.out _ _ (And.intro (holds6 Q13c.out) (And.intro (Pair.out PX13c.out) (frees4 F13c.out))) (fun hHeld => ?_)
                clear hK K
                (try simp only [Act.put, List.setIfInBounds_toArray, List.set_cons_zero, List.set_cons_succ])
                refine wpAnyH_ready (rs := [9]) (by kernel_rfl) (by simp) (AllReadyH.cons (o := ({ dst := some 100, op := Op.call { callee := Callee.value (Operand.func 136), args := #[Operand.tmp 96, Operand.tmp 99], argTypes := #[203, 203] }, type := 203, pos := "drift.go:150", after := #[{ on := 5, ground := Ground.data }, { on := 8, ground := Ground.data }, { on := 8, ground := Ground.chain }], guard := none } : Oper)) rfl (fun K hK => ?_) AllReadyH.nil)
                go_simp
                (go_at_call 136; (with_reducible refine (Hi.out _).mono ?_); rintro e w13d ⟨rfl, hb13d⟩)
                have kb13d : Below w13c.heap.size w13c w13d := hb13d
                have Q13d := Lib.hid (Q13c.out.below kb13d)
                have F13d := Lib.hid (F13c.out.below kb13d)
                have PX13d := Lib.hid (PX13c.out.below lx13c kb13d)
                have yy13d_c0 := (kb13d.cell (p := ⟨X5, 0, none⟩) ly13c).trans yy13c_c0
                have yy13d_c1 := (kb13d.cell (p := ⟨X5, 1, none⟩) ly13c).trans yy13c_c1
                have lx13d := Nat.lt_of_lt_of_le lx13c kb13d.size
                have ly13d := Nat.lt_of_lt_of_le ly13c kb13d.size
                have kb13dH := Lib.hid kb13d
                clear kb13d hb13d
                refine hK.out _ _ (And.intro (holds6 Q13d.out) (And.intro (Pair.out PX13d.out) (frees4 F13d.out))) (fun hHeld => ?_)
                clear hK K
                (try simp only [Act.put, List.setIfInBounds_toArray, List.set_cons_zero, List.set_cons_succ])
                refine wpAnyH_ready (rs := [10]) (by kernel_rfl) (by simp) (AllReadyH.cons (o := ({ dst := none, op := Op.store 203 (Operand.tmp 21) (Operand.tmp 95), type := 0, pos := "drift.go:150", after := #[{ on := 4, ground := Ground.data }, { on := 9, ground := Ground.chain }, { on := 0, ground := Ground.phase }, { on := 1, ground := Ground.phase }, { on := 2, ground := Ground.phase }, { on := 3, ground := Ground.phase }, { on := 4, ground := Ground.phase }, { on := 5, ground := Ground.textOnly Departure.lateStores }, { on := 6, ground := Ground.textOnly Departure.lateStores }, { on := 7, ground := Ground.textOnly Departure.lateStores }, { on := 8, ground := Ground.textOnly Departure.lateStoresUnsure }, { on := 9, ground := Ground.textOnly Departure.lateStoresUnsure }], guard := none } : Oper)) rfl (fun K hK => ?_) AllReadyH.nil)
                go_simp
                refine hK.out _ _ (And.intro (holds6 ((Q13d.out.set _ _ _ NX13.out).set _ _ _ NX13.out)) (And.intro (Pair.out (Pair.set PX13d.out _ _)) (frees4 ((F13d.out.set _ _).set _ _)))) (fun hHeld => ?_)
                clear hK K
                (try simp only [Act.put, List.setIfInBounds_toArray, List.set_cons_zero, List.set_cons_succ])
                refine wpAnyH_ready (rs := [11]) (by kernel_rfl) (by simp) (AllReadyH.cons (o := ({ dst := none, op := Op.store 203 (Operand.tmp 22) (Operand.tmp 100), type := 0, pos := "drift.go:150", after := #[{ on := 9, ground := Ground.data }, { on := 10, ground := Ground.chain }, { on := 0, ground := Ground.phase }, { on := 1, ground := Ground.phase }, { on := 2, ground := Ground.phase }, { on := 3, ground := Ground.phase }, { on := 4, ground := Ground.phase }, { on := 5, ground := Ground.phase }, { on := 6, ground := Ground.phase }, { on := 7, ground := Ground.phase }, { on := 8, ground := Ground.phase }, { on := 9, ground := Ground.phase }, { on := 10, ground := Ground.phase }], guard := none } : Oper)) rfl (fun K hK => ?_) AllReadyH.nil)
                go_simp
                refine hK.out _ _ (And.intro (holds6 ((((Q13d.out.set _ _ _ NX13.out).set _ _ _ NX13.out).set _ _ _ NY13.out).set _ _ _ NY13.out)) (And.intro (Pair.out (Pair.far (Pair.set PX13d.out _ _) (by omega) _ _)) (frees4 ((((F13d.out.set _ _).set _ _).set _ _).set _ _)))) (fun hHeld => ?_)
                clear hK K
                (try simp only [Act.put, List.setIfInBounds_toArray, List.set_cons_zero, List.set_cons_succ])
                refine wpAnyH_done (by kernel_rfl) ?_ _
                refine NoPanic.normal ?_
                have kE : Below w9.heap.size w9 w13d := (((kb13aH.out.trans (kb13bH.out.mono (by have := kb13aH.out.size; omega))).trans (kb13cH.out.mono (by have := kb13aH.out.size; have := kb13bH.out.size; omega))).trans (kb13dH.out.mono (by have := kb13aH.out.size; have := kb13bH.out.size; have := kb13cH.out.size; omega)))
                have PXf := PX13d
                have Ff := F13d
                go_wp2_with fail
                go_meet
                exact ⟨(((((BB9.out.trans (kE.mono BB9.out.size)).setCell (p := ⟨X4, 0, none⟩) (by show _ ≤ X4; omega) _).setCell (p := ⟨X4, 1, none⟩) (by show _ ≤ X4; omega) _).setCell (p := ⟨X5, 0, none⟩) (by show _ ≤ X5; omega) _).setCell (p := ⟨X5, 1, none⟩) (by show _ ≤ X5; omega) _), Pair.far (Pair.set PXf.out _ _) (by omega) _ _, Pair.set (Pair.far (show Pair _ X5 _ _ from ⟨yy13d_c0, yy13d_c1⟩) (by omega) _ _) _ _, ((((HR.out.below kE).set _ _ _ NR4.out).set _ _ _ NR4.out).set _ _ _ NR5.out).set _ _ _ NR5.out, ((((HRF.out.below kE).set _ _).set _ _).set _ _).set _ _, by simp; have := kE.size; omega⟩
              · go_simp
                (go_at_call 134; (with_reducible refine (Hh.out _).mono ?_); rintro e w13c ⟨rfl, hb13c⟩)
                have kb13c : Below w13b.heap.size w13b w13c := hb13c
                have Q13c := Lib.hid (Q13b.out.below kb13c)
                have F13c := Lib.hid (F13b.out.below kb13c)
                have PX13c := Lib.hid (PX13b.out.below lx13b kb13c)
                have yy13c_c0 := (kb13c.cell (p := ⟨X5, 0, none⟩) ly13b).trans yy13b_c0
                have yy13c_c1 := (kb13c.cell (p := ⟨X5, 1, none⟩) ly13b).trans yy13b_c1
                have lx13c := Nat.lt_of_lt_of_le lx13b kb13c.size
                have ly13c := Nat.lt_of_lt_of_le ly13b kb13c.size
                have kb13cH := Lib.hid kb13c
                clear kb13c hb13c
                refine hK.out _ _ (And.intro (holds6 Q13c.out) (And.intro (Pair.out PX13c.out) (frees4 F13c.out))) (fun hHeld => ?_)
                clear hK K
                (try simp only [Act.put, List.setIfInBounds_toArray, List.set_cons_zero, List.set_cons_succ])
                refine wpAnyH_ready (rs := [5]) (by kernel_rfl) (by simp) (AllReadyH.cons (o := ({ dst := some 96, op := Op.load 203 (Operand.tmp 22), type := 203, pos := "drift.go:150", after := #[], guard := none } : Oper)) rfl (fun K hK => ?_) AllReadyH.nil)
                go_simp
                refine hK.out _ _ (And.intro (holds6 Q13c.out) (And.intro (Pair.out PX13c.out) (frees4 F13c.out))) (fun hHeld => ?_)
                clear hK K
                (try simp only [Act.put, List.setIfInBounds_toArray, List.set_cons_zero, List.set_cons_succ])
                refine wpAnyH_ready (rs := [9]) (by kernel_rfl) (by simp) (AllReadyH.cons (o := ({ dst := some 100, op := Op.call { callee := Callee.value (Operand.func 136), args := #[Operand.tmp 96, Operand.tmp 99], argTypes := #[203, 203] }, type := 203, pos := "drift.go:150", after := #[{ on := 5, ground := Ground.data }, { on := 8, ground := Ground.data }, { on := 8, ground := Ground.chain }], guard := none } : Oper)) rfl (fun K hK => ?_) AllReadyH.nil)
                go_simp
                (go_at_call 136; (with_reducible refine (Hi.out _).mono ?_); rintro e w13d ⟨rfl, hb13d⟩)
                have kb13d : Below w13c.heap.size w13c w13d := hb13d
                have Q13d := Lib.hid (Q13c.out.below kb13d)
                have F13d := Lib.hid (F13c.out.below kb13d)
                have PX13d := Lib.hid (PX13c.out.below lx13c kb13d)
                have yy13d_c0 := (kb13d.cell (p := ⟨X5, 0, none⟩) ly13c).trans yy13c_c0
                have yy13d_c1 := (kb13d.cell (p := ⟨X5, 1, none⟩) ly13c).trans yy13c_c1
                have lx13d := Nat.lt_of_lt_of_le lx13c kb13d.size
                have ly13d := Nat.lt_of_lt_of_le ly13c kb13d.size
                have kb13dH := Lib.hid kb13d
                clear kb13d hb13d
                refine hK.out _ _ (And.intro (holds6 Q13d.out) (And.intro (Pair.out PX13d.out) (frees4 F13d.out))) (fun hHeld => ?_)
                clear hK K
                (try simp only [Act.put, List.setIfInBounds_toArray, List.set_cons_zero, List.set_cons_succ])
                refine wpAnyH_ready (rs := [10]) (by kernel_rfl) (by simp) (AllReadyH.cons (o := ({ dst := none, op := Op.store 203 (Operand.tmp 21) (Operand.tmp 95), type := 0, pos := "drift.go:150", after := #[{ on := 4, ground := Ground.data }, { on := 9, ground := Ground.chain }, { on := 0, ground := Ground.phase }, { on := 1, ground := Ground.phase }, { on := 2, ground := Ground.phase }, { on := 3, ground := Ground.phase }, { on := 4, ground := Ground.phase }, { on := 5, ground := Ground.textOnly Departure.lateStores }, { on := 6, ground := Ground.textOnly Departure.lateStores }, { on := 7, ground := Ground.textOnly Departure.lateStores }, { on := 8, ground := Ground.textOnly Departure.lateStoresUnsure }, { on := 9, ground := Ground.textOnly Departure.lateStoresUnsure }], guard := none } : Oper)) rfl (fun K hK => ?_) AllReadyH.nil)
                go_simp
                refine hK.out _ _ (And.intro (holds6 ((Q13d.out.set _ _ _ NX13.out).set _ _ _ NX13.out)) (And.intro (Pair.out (Pair.set PX13d.out _ _)) (frees4 ((F13d.out.set _ _).set _ _)))) (fun hHeld => ?_)
                clear hK K
                (try simp only [Act.put, List.setIfInBounds_toArray, List.set_cons_zero, List.set_cons_succ])
                refine wpAnyH_ready (rs := [11]) (by kernel_rfl) (by simp) (AllReadyH.cons (o := ({ dst := none, op := Op.store 203 (Operand.tmp 22) (Operand.tmp 100), type := 0, pos := "drift.go:150", after := #[{ on := 9, ground := Ground.data }, { on := 10, ground := Ground.chain }, { on := 0, ground := Ground.phase }, { on := 1, ground := Ground.phase }, { on := 2, ground := Ground.phase }, { on := 3, ground := Ground.phase }, { on := 4, ground := Ground.phase }, { on := 5, ground := Ground.phase }, { on := 6, ground := Ground.phase }, { on := 7, ground := Ground.phase }, { on := 8, ground := Ground.phase }, { on := 9, ground := Ground.phase }, { on := 10, ground := Ground.phase }], guard := none } : Oper)) rfl (fun K hK => ?_) AllReadyH.nil)
                go_simp
                refine hK.out _ _ (And.intro (holds6 ((((Q13d.out.set _ _ _ NX13.out).set _ _ _ NX13.out).set _ _ _ NY13.out).set _ _ _ NY13.out)) (And.intro (Pair.out (Pair.far (Pair.set PX13d.out _ _) (by omega) _ _)) (frees4 ((((F13d.out.set _ _).set _ _).set _ _).set _ _)))) (fun hHeld => ?_)
                clear hK K
                (try simp only [Act.put, List.setIfInBounds_toArray, List.set_cons_zero, List.set_cons_succ])
                refine wpAnyH_done (by kernel_rfl) ?_ _
                refine NoPanic.normal ?_
                have kE : Below w9.heap.size w9 w13d := (((kb13aH.out.trans (kb13bH.out.mono (by have := kb13aH.out.size; omega))).trans (kb13cH.out.mono (by have := kb13aH.out.size; have := kb13bH.out.size; omega))).trans (kb13dH.out.mono (by have := kb13aH.out.size; have := kb13bH.out.size; have := kb13cH.out.size; omega)))
                have PXf := PX13d
                have Ff := F13d
                go_wp2_with fail
                go_meet
                exact ⟨(((((BB9.out.trans (kE.mono BB9.out.size)).setCell (p := ⟨X4, 0, none⟩) (by show _ ≤ X4; omega) _).setCell (p := ⟨X4, 1, none⟩) (by show _ ≤ X4; omega) _).setCell (p := ⟨X5, 0, none⟩) (by show _ ≤ X5; omega) _).setCell (p := ⟨X5, 1, none⟩) (by show _ ≤ X5; omega) _), Pair.far (Pair.set PXf.out _ _) (by omega) _ _, Pair.set (Pair.far (show Pair _ X5 _ _ from ⟨yy13d_c0, yy13d_c1⟩) (by omega) _ _) _ _, ((((HR.out.below kE).set _ _ _ NR4.out).set _ _ _ NR4.out).set _ _ _ NR5.out).set _ _ _ NR5.out, ((((HRF.out.below kE).set _ _).set _ _).set _ _).set _ _, by simp; have := kE.size; omega⟩
            · go_simp
              refine hK.out _ _ (And.intro (holds6 Q13a.out) (And.intro (Pair.out PX13a.out) (frees4 F13a.out))) (fun hHeld => ?_)
              clear hK K
              (try simp only [Act.put, List.setIfInBounds_toArray, List.set_cons_zero, List.set_cons_succ])
              refine wpAnyH_ready (rs := [4]) (by kernel_rfl) (by simp) (AllReadyH.cons (o := ({ dst := some 95, op := Op.call { callee := Callee.value (Operand.func 135), args := #[Operand.tmp 91, Operand.tmp 94], argTypes := #[203, 203] }, type := 203, pos := "drift.go:150", after := #[{ on := 0, ground := Ground.data }, { on := 3, ground := Ground.data }, { on := 3, ground := Ground.chain }], guard := none } : Oper)) rfl (fun K hK => ?_) AllReadyH.nil)
              go_simp
              (go_at_call 135; (with_reducible refine (Hg.out _).mono ?_); rintro e w13b ⟨rfl, hb13b⟩)
              have kb13b : Below w13a.heap.size w13a w13b := hb13b
              have Q13b := Lib.hid (Q13a.out.below kb13b)
              have F13b := Lib.hid (F13a.out.below kb13b)
              have PX13b := Lib.hid (PX13a.out.below lx13a kb13b)
              have yy13b_c0 := (kb13b.cell (p := ⟨X5, 0, none⟩) ly13a).trans yy13a_c0
              have yy13b_c1 := (kb13b.cell (p := ⟨X5, 1, none⟩) ly13a).trans yy13a_c1
              have lx13b := Nat.lt_of_lt_of_le lx13a kb13b.size
              have ly13b := Nat.lt_of_lt_of_le ly13a kb13b.size
              have kb13bH := Lib.hid kb13b
              clear kb13b hb13b
              refine hK.out _ _ (And.intro (holds6 Q13b.out) (And.intro (Pair.out PX13b.out) (frees4 F13b.out))) (fun hHeld => ?_)
              clear hK K
              (try simp only [Act.put, List.setIfInBounds_toArray, List.set_cons_zero, List.set_cons_succ])
              refine wpAnyH_ready (rs := [8]) (by kernel_rfl) (by simp) (AllReadyH.cons (o := ({ dst := some 99, op := Op.call { callee := Callee.value (Operand.func 134), args := #[Operand.tmp 97, Operand.tmp 98], argTypes := #[203, 203] }, type := 203, pos := "drift.go:150", after := #[{ on := 6, ground := Ground.data }, { on := 7, ground := Ground.data }, { on := 4, ground := Ground.chain }], guard := none } : Oper)) rfl (fun K hK => ?_) AllReadyH.nil)
              go_simp
              (go_at_call 134; (with_reducible refine (Hh.out _).mono ?_); rintro e w13c ⟨rfl, hb13c⟩)
              have kb13c : Below w13b.heap.size w13b w13c := hb13c
              have Q13c := Lib.hid (Q13b.out.below kb13c)
              have F13c := Lib.hid (F13b.out.below kb13c)
              have PX13c := Lib.hid (PX13b.out.below lx13b kb13c)
              have yy13c_c0 := (kb13c.cell (p := ⟨X5, 0, none⟩) ly13b).trans yy13b_c0
              have yy13c_c1 := (kb13c.cell (p := ⟨X5, 1, none⟩) ly13b).trans yy13b_c1
              have lx13c := Nat.lt_of_lt_of_le lx13b kb13c.size
              have ly13c := Nat.lt_of_lt_of_le ly13b kb13c.size
              have kb13cH := Lib.hid kb13c
              clear kb13c hb13c
              refine hK.out _ _ (And.intro (holds6 Q13c.out) (And.intro (Pair.out PX13c.out) (frees4 F13c.out))) (fun hHeld => ?_)
              clear hK K
              (try simp only [Act.put, List.setIfInBounds_toArray, List.set_cons_zero, List.set_cons_succ])
              refine wpAnyH_ready (rs := [9]) (by kernel_rfl) (by simp) (AllReadyH.cons (o := ({ dst := some 100, op := Op.call { callee := Callee.value (Operand.func 136), args := #[Operand.tmp 96, Operand.tmp 99], argTypes := #[203, 203] }, type := 203, pos := "drift.go:150", after := #[{ on := 5, ground := Ground.data }, { on := 8, ground := Ground.data }, { on := 8, ground := Ground.chain }], guard := none } : Oper)) rfl (fun K hK => ?_) AllReadyH.nil)
              go_simp
              (go_at_call 136; (with_reducible refine (Hi.out _).mono ?_); rintro e w13d ⟨rfl, hb13d⟩)
              have kb13d : Below w13c.heap.size w13c w13d := hb13d
              have Q13d := Lib.hid (Q13c.out.below kb13d)
              have F13d := Lib.hid (F13c.out.below kb13d)
              have PX13d := Lib.hid (PX13c.out.below lx13c kb13d)
              have yy13d_c0 := (kb13d.cell (p := ⟨X5, 0, none⟩) ly13c).trans yy13c_c0
              have yy13d_c1 := (kb13d.cell (p := ⟨X5, 1, none⟩) ly13c).trans yy13c_c1
              have lx13d := Nat.lt_of_lt_of_le lx13c kb13d.size
              have ly13d := Nat.lt_of_lt_of_le ly13c kb13d.size
              have kb13dH := Lib.hid kb13d
              clear kb13d hb13d
              refine hK.out _ _ (And.intro (holds6 Q13d.out) (And.intro (Pair.out PX13d.out) (frees4 F13d.out))) (fun hHeld => ?_)
              clear hK K
              (try simp only [Act.put, List.setIfInBounds_toArray, List.set_cons_zero, List.set_cons_succ])
              refine wpAnyH_ready (rs := [10]) (by kernel_rfl) (by simp) (AllReadyH.cons (o := ({ dst := none, op := Op.store 203 (Operand.tmp 21) (Operand.tmp 95), type := 0, pos := "drift.go:150", after := #[{ on := 4, ground := Ground.data }, { on := 9, ground := Ground.chain }, { on := 0, ground := Ground.phase }, { on := 1, ground := Ground.phase }, { on := 2, ground := Ground.phase }, { on := 3, ground := Ground.phase }, { on := 4, ground := Ground.phase }, { on := 5, ground := Ground.textOnly Departure.lateStores }, { on := 6, ground := Ground.textOnly Departure.lateStores }, { on := 7, ground := Ground.textOnly Departure.lateStores }, { on := 8, ground := Ground.textOnly Departure.lateStoresUnsure }, { on := 9, ground := Ground.textOnly Departure.lateStoresUnsure }], guard := none } : Oper)) rfl (fun K hK => ?_) AllReadyH.nil)
              go_simp
              refine hK.out _ _ (And.intro (holds6 ((Q13d.out.set _ _ _ NX13.out).set _ _ _ NX13.out)) (And.intro (Pair.out (Pair.set PX13d.out _ _)) (frees4 ((F13d.out.set _ _).set _ _)))) (fun hHeld => ?_)
              clear hK K
              (try simp only [Act.put, List.setIfInBounds_toArray, List.set_cons_zero, List.set_cons_succ])
              refine wpAnyH_ready (rs := [11]) (by kernel_rfl) (by simp) (AllReadyH.cons (o := ({ dst := none, op := Op.store 203 (Operand.tmp 22) (Operand.tmp 100), type := 0, pos := "drift.go:150", after := #[{ on := 9, ground := Ground.data }, { on := 10, ground := Ground.chain }, { on := 0, ground := Ground.phase }, { on := 1, ground := Ground.phase }, { on := 2, ground := Ground.phase }, { on := 3, ground := Ground.phase }, { on := 4, ground := Ground.phase }, { on := 5, ground := Ground.phase }, { on := 6, ground := Ground.phase }, { on := 7, ground := Ground.phase }, { on := 8, ground := Ground.phase }, { on := 9, ground := Ground.phase }, { on := 10, ground := Ground.phase }], guard := none } : Oper)) rfl (fun K hK => ?_) AllReadyH.nil)
              go_simp
              refine hK.out _ _ (And.intro (holds6 ((((Q13d.out.set _ _ _ NX13.out).set _ _ _ NX13.out).set _ _ _ NY13.out).set _ _ _ NY13.out)) (And.intro (Pair.out (Pair.far (Pair.set PX13d.out _ _) (by omega) _ _)) (frees4 ((((F13d.out.set _ _).set _ _).set _ _).set _ _)))) (fun hHeld => ?_)
              clear hK K
              (try simp only [Act.put, List.setIfInBounds_toArray, List.set_cons_zero, List.set_cons_succ])
              refine wpAnyH_done (by kernel_rfl) ?_ _
              refine NoPanic.normal ?_
              have kE : Below w9.heap.size w9 w13d := (((kb13aH.out.trans (kb13bH.out.mono (by have := kb13aH.out.size; omega))).trans (kb13cH.out.mono (by have := kb13aH.out.size; have := kb13bH.out.size; omega))).trans (kb13dH.out.mono (by have := kb13aH.out.size; have := kb13bH.out.size; have := kb13cH.out.size; omega)))
              have PXf := PX13d
              have Ff := F13d
              go_wp2_with fail
              go_meet
              exact ⟨(((((BB9.out.trans (kE.mono BB9.out.size)).setCell (p := ⟨X4, 0, none⟩) (by show _ ≤ X4; omega) _).setCell (p := ⟨X4, 1, none⟩) (by show _ ≤ X4; omega) _).setCell (p := ⟨X5, 0, none⟩) (by show _ ≤ X5; omega) _).setCell (p := ⟨X5, 1, none⟩) (by show _ ≤ X5; omega) _), Pair.far (Pair.set PXf.out _ _) (by omega) _ _, Pair.set (Pair.far (show Pair _ X5 _ _ from ⟨yy13d_c0, yy13d_c1⟩) (by omega) _ _) _ _, ((((HR.out.below kE).set _ _ _ NR4.out).set _ _ _ NR4.out).set _ _ _ NR5.out).set _ _ _ NR5.out, ((((HRF.out.below kE).set _ _).set _ _).set _ _).set _ _, by simp; have := kE.size; omega⟩
          · go_simp
            refine hK.out _ _ (And.intro (holds6 (Holds.drew Q13.out)) (And.intro (Pair.out (Pair.drew PX13.out)) (frees4 (Frees.drew F13.out)))) (fun hHeld => ?_)
            clear hK K
            (try simp only [Act.put, List.setIfInBounds_toArray, List.set_cons_zero, List.set_cons_succ])
            refine wpAnyH_ready (rs := [3]) (by kernel_rfl) (by simp) (AllReadyH.cons (o := ({ dst := some 94, op := Op.call { callee := Callee.value (Operand.func 134), args := #[Operand.tmp 92, Operand.tmp 93], argTypes := #[203, 203] }, type := 203, pos := "drift.go:150", after := #[{ on := 1, ground := Ground.data }, { on := 2, ground := Ground.data }], guard := none } : Oper)) rfl (fun K hK => ?_) AllReadyH.nil)
            go_simp
            (go_at_call 134; (with_reducible refine (Hf.out _).mono ?_); rintro e w13a ⟨rfl, hb13a⟩)
            have kb13a : Below w9.heap.size w9 w13a := below_of_drew hb13a
            have Q13a := Lib.hid (Q13.out.below kb13a)
            have F13a := Lib.hid (F13.out.below kb13a)
            have PX13a := Lib.hid (PX13.out.below yb13_3 kb13a)
            have yy13a_c0 := (kb13a.cell (p := ⟨X5, 0, none⟩) yb13_4).trans y_9c0
            have yy13a_c1 := (kb13a.cell (p := ⟨X5, 1, none⟩) yb13_4).trans y_9c1
            have lx13a := Nat.lt_of_lt_of_le yb13_3 kb13a.size
            have ly13a := Nat.lt_of_lt_of_le yb13_4 kb13a.size
            have kb13aH := Lib.hid kb13a
            clear kb13a hb13a
            refine hK.out _ _ (And.intro (holds6 Q13a.out) (And.intro (Pair.out PX13a.out) (frees4 F13a.out))) (fun hHeld => ?_)
            clear hK K
            (try simp only [Act.put, List.setIfInBounds_toArray, List.set_cons_zero, List.set_cons_succ])
            refine wpAnyH_ready (rs := [4]) (by kernel_rfl) (by simp) (AllReadyH.cons (o := ({ dst := some 95, op := Op.call { callee := Callee.value (Operand.func 135), args := #[Operand.tmp 91, Operand.tmp 94], argTypes := #[203, 203] }, type := 203, pos := "drift.go:150", after := #[{ on := 0, ground := Ground.data }, { on := 3, ground := Ground.data }, { on := 3, ground := Ground.chain }], guard := none } : Oper)) rfl (fun K hK => ?_) AllReadyH.nil)
            go_simp
            (go_at_call 135; (with_reducible refine (Hg.out _).mono ?_); rintro e w13b ⟨rfl, hb13b⟩)
            have kb13b : Below w13a.heap.size w13a w13b := hb13b
            have Q13b := Lib.hid (Q13a.out.below kb13b)
            have F13b := Lib.hid (F13a.out.below kb13b)
            have PX13b := Lib.hid (PX13a.out.below lx13a kb13b)
            have yy13b_c0 := (kb13b.cell (p := ⟨X5, 0, none⟩) ly13a).trans yy13a_c0
            have yy13b_c1 := (kb13b.cell (p := ⟨X5, 1, none⟩) ly13a).trans yy13a_c1
            have lx13b := Nat.lt_of_lt_of_le lx13a kb13b.size
            have ly13b := Nat.lt_of_lt_of_le ly13a kb13b.size
            have kb13bH := Lib.hid kb13b
            clear kb13b hb13b
            refine hK.out _ _ (And.intro (holds6 Q13b.out) (And.intro (Pair.out PX13b.out) (frees4 F13b.out))) (fun hHeld => ?_)
            clear hK K
            (try simp only [Act.put, List.setIfInBounds_toArray, List.set_cons_zero, List.set_cons_succ])
            refine wpAnyH_ready (rs := [8]) (by kernel_rfl) (by simp) (AllReadyH.cons (o := ({ dst := some 99, op := Op.call { callee := Callee.value (Operand.func 134), args := #[Operand.tmp 97, Operand.tmp 98], argTypes := #[203, 203] }, type := 203, pos := "drift.go:150", after := #[{ on := 6, ground := Ground.data }, { on := 7, ground := Ground.data }, { on := 4, ground := Ground.chain }], guard := none } : Oper)) rfl (fun K hK => ?_) AllReadyH.nil)
            go_simp
            (go_at_call 134; (with_reducible refine (Hh.out _).mono ?_); rintro e w13c ⟨rfl, hb13c⟩)
            have kb13c : Below w13b.heap.size w13b w13c := hb13c
            have Q13c := Lib.hid (Q13b.out.below kb13c)
            have F13c := Lib.hid (F13b.out.below kb13c)
            have PX13c := Lib.hid (PX13b.out.below lx13b kb13c)
            have yy13c_c0 := (kb13c.cell (p := ⟨X5, 0, none⟩) ly13b).trans yy13b_c0
            have yy13c_c1 := (kb13c.cell (p := ⟨X5, 1, none⟩) ly13b).trans yy13b_c1
            have lx13c := Nat.lt_of_lt_of_le lx13b kb13c.size
            have ly13c := Nat.lt_of_lt_of_le ly13b kb13c.size
            have kb13cH := Lib.hid kb13c
            clear kb13c hb13c
            refine hK.out _ _ (And.intro (holds6 Q13c.out) (And.intro (Pair.out PX13c.out) (frees4 F13c.out))) (fun hHeld => ?_)
            clear hK K
            (try simp only [Act.put, List.setIfInBounds_toArray, List.set_cons_zero, List.set_cons_succ])
            refine wpAnyH_ready (rs := [9]) (by kernel_rfl) (by simp) (AllReadyH.cons (o := ({ dst := some 100, op := Op.call { callee := Callee.value (Operand.func 136), args := #[Operand.tmp 96, Operand.tmp 99], argTypes := #[203, 203] }, type := 203, pos := "drift.go:150", after := #[{ on := 5, ground := Ground.data }, { on := 8, ground := Ground.data }, { on := 8, ground := Ground.chain }], guard := none } : Oper)) rfl (fun K hK => ?_) AllReadyH.nil)
            go_simp
            (go_at_call 136; (with_reducible refine (Hi.out _).mono ?_); rintro e w13d ⟨rfl, hb13d⟩)
            have kb13d : Below w13c.heap.size w13c w13d := hb13d
            have Q13d := Lib.hid (Q13c.out.below kb13d)
            have F13d := Lib.hid (F13c.out.below kb13d)
            have PX13d := Lib.hid (PX13c.out.below lx13c kb13d)
            have yy13d_c0 := (kb13d.cell (p := ⟨X5, 0, none⟩) ly13c).trans yy13c_c0
            have yy13d_c1 := (kb13d.cell (p := ⟨X5, 1, none⟩) ly13c).trans yy13c_c1
            have lx13d := Nat.lt_of_lt_of_le lx13c kb13d.size
            have ly13d := Nat.lt_of_lt_of_le ly13c kb13d.size
            have kb13dH := Lib.hid kb13d
            clear kb13d hb13d
            refine hK.out _ _ (And.intro (holds6 Q13d.out) (And.intro (Pair.out PX13d.out) (frees4 F13d.out))) (fun hHeld => ?_)
            clear hK K
            (try simp only [Act.put, List.setIfInBounds_toArray, List.set_cons_zero, List.set_cons_succ])
            refine wpAnyH_ready (rs := [10]) (by kernel_rfl) (by simp) (AllReadyH.cons (o := ({ dst := none, op := Op.store 203 (Operand.tmp 21) (Operand.tmp 95), type := 0, pos := "drift.go:150", after := #[{ on := 4, ground := Ground.data }, { on := 9, ground := Ground.chain }, { on := 0, ground := Ground.phase }, { on := 1, ground := Ground.phase }, { on := 2, ground := Ground.phase }, { on := 3, ground := Ground.phase }, { on := 4, ground := Ground.phase }, { on := 5, ground := Ground.textOnly Departure.lateStores }, { on := 6, ground := Ground.textOnly Departure.lateStores }, { on := 7, ground := Ground.textOnly Departure.lateStores }, { on := 8, ground := Ground.textOnly Departure.lateStoresUnsure }, { on := 9, ground := Ground.textOnly Departure.lateStoresUnsure }], guard := none } : Oper)) rfl (fun K hK => ?_) AllReadyH.nil)
            go_simp
            refine hK.out _ _ (And.intro (holds6 ((Q13d.out.set _ _ _ NX13.out).set _ _ _ NX13.out)) (And.intro (Pair.out (Pair.set PX13d.out _ _)) (frees4 ((F13d.out.set _ _).set _ _)))) (fun hHeld => ?_)
            clear hK K
            (try simp only [Act.put, List.setIfInBounds_toArray, List.set_cons_zero, List.set_cons_succ])
            refine wpAnyH_ready (rs := [11]) (by kernel_rfl) (by simp) (AllReadyH.cons (o := ({ dst := none, op := Op.store 203 (Operand.tmp 22) (Operand.tmp 100), type := 0, pos := "drift.go:150", after := #[{ on := 9, ground := Ground.data }, { on := 10, ground := Ground.chain }, { on := 0, ground := Ground.phase }, { on := 1, ground := Ground.phase }, { on := 2, ground := Ground.phase }, { on := 3, ground := Ground.phase }, { on := 4, ground := Ground.phase }, { on := 5, ground := Ground.phase }, { on := 6, ground := Ground.phase }, { on := 7, ground := Ground.phase }, { on := 8, ground := Ground.phase }, { on := 9, ground := Ground.phase }, { on := 10, ground := Ground.phase }], guard := none } : Oper)) rfl (fun K hK => ?_) AllReadyH.nil)
            go_simp
            refine hK.out _ _ (And.intro (holds6 ((((Q13d.out.set _ _ _ NX13.out).set _ _ _ NX13.out).set _ _ _ NY13.out).set _ _ _ NY13.out)) (And.intro (Pair.out (Pair.far (Pair.set PX13d.out _ _) (by omega) _ _)) (frees4 ((((F13d.out.set _ _).set _ _).set _ _).set _ _)))) (fun hHeld => ?_)
            clear hK K
            (try simp only [Act.put, List.setIfInBounds_toArray, List.set_cons_zero, List.set_cons_succ])
            refine wpAnyH_done (by kernel_rfl) ?_ _
            refine NoPanic.normal ?_
            have kE : Below w9.heap.size w9 w13d := (((kb13aH.out.trans (kb13bH.out.mono (by have := kb13aH.out.size; omega))).trans (kb13cH.out.mono (by have := kb13aH.out.size; have := kb13bH.out.size; omega))).trans (kb13dH.out.mono (by have := kb13aH.out.size; have := kb13bH.out.size; have := kb13cH.out.size; omega)))
            have PXf := PX13d
            have Ff := F13d
            go_wp2_with fail
            go_meet
            exact ⟨(((((BB9.out.trans (kE.mono BB9.out.size)).setCell (p := ⟨X4, 0, none⟩) (by show _ ≤ X4; omega) _).setCell (p := ⟨X4, 1, none⟩) (by show _ ≤ X4; omega) _).setCell (p := ⟨X5, 0, none⟩) (by show _ ≤ X5; omega) _).setCell (p := ⟨X5, 1, none⟩) (by show _ ≤ X5; omega) _), Pair.far (Pair.set PXf.out _ _) (by omega) _ _, Pair.set (Pair.far (show Pair _ X5 _ _ from ⟨yy13d_c0, yy13d_c1⟩) (by omega) _ _) _ _, ((((HR.out.below kE).set _ _ _ NR4.out).set _ _ _ NR4.out).set _ _ _ NR5.out).set _ _ _ NR5.out, ((((HRF.out.below kE).set _ _).set _ _).set _ _).set _ _, by simp; have := kE.size; omega⟩
        case rest =>
          obtain ⟨w14, hwc⟩ : ∃ z, z = wc := ⟨_, rfl⟩
          subst hwc
          obtain ⟨kb, px, py, hr, hf, hz⟩ := hcut
          clear HR HRF NR4 NR5 BB9 res_9c0 res_9c1 res_9c2 res_9c3 res_9f0 res_9f1 res_9f2 res_9f3 a_9c0 a_9c1 b_9c0 b_9c1 cr_9c0 cr_9c1 x_9c0 x_9c1 x_9f0 x_9f1 y_9c0 y_9c1 y_9f0 y_9f1
          have BB14 := Lib.hid kb
          obtain ⟨x_14c0, x_14c1⟩ := px
          obtain ⟨y_14c0, y_14c1⟩ := py
          obtain ⟨res_14c0, res_14c1, res_14c2, res_14c3⟩ := holds4 hr
          obtain ⟨res_14f0, res_14f1, res_14f2, res_14f3⟩ := frees4 hf
          have HRT := Lib.hid hr
          clear kb hr hf
          go_upto_region 10 with fail
          have Ha := Lib.hid fl_a
          have Hb := Lib.hid fl_b
          have Hc := Lib.hid fl_c
          have vw0 : IntKind.i64.wrap (100000000 : Int) = 100000000 := by decide +kernel
          have vw1 : IntKind.i64.wrap (50000000 : Int) = 50000000 := by decide +kernel
          have vw2 : IntKind.i64.wrap (-100000000 : Int) = -100000000 := by decide +kernel
          have vw3 : IntKind.i64.wrap (-50000000 : Int) = -50000000 := by decide +kernel
          have vw4 : IntKind.i64.wrap (-100000 : Int) = -100000 := by decide +kernel
          have vw5 : IntKind.i64.wrap (100000 : Int) = 100000 := by decide +kernel
          have vw6 : IntKind.i64.wrap (50000 : Int) = 50000 := by decide +kernel
          have vw7 : IntKind.i64.wrap (-50000 : Int) = -50000 := by decide +kernel
          have vw8 : IntKind.i64.wrap (100 : Int) = 100 := by decide +kernel
          have vw9 : IntKind.i64.wrap (-100 : Int) = -100 := by decide +kernel
          have vw10 : IntKind.i64.wrap (50 : Int) = 50 := by decide +kernel
          have vw11 : IntKind.i64.wrap (-50 : Int) = -50 := by decide +kernel
          have NR := Lib.hid (show ∀ z, z ∈ ([(X4, 0, .int .i64 100000), (X4, 1, .int .i64 100000), (X5, 0, .int .i64 (-100000)), (X5, 1, .int .i64 (-50000))] : List (Nat × Nat × Value)) → z.1 ≠ Z + 1 + 1 from (by intro z hz; simp at hz; rcases hz with rfl | rfl | rfl | rfl <;> (show _ ≠ _; omega)))
          have yb15_0 : X4 < w14.heap.size := by omega
          have yb15_1 : X5 < w14.heap.size := by omega
          have yb15_2 : Z + 1 + 1 < w14.heap.size := by omega
          have Q15 := Lib.hid (show Holds w14 [(X4, 0, .int .i64 100000), (X4, 1, .int .i64 100000), (X5, 0, .int .i64 (-100000)), (X5, 1, .int .i64 (-50000))] from (.cons yb15_0 x_14c0 (.cons yb15_0 x_14c1 (.cons yb15_1 y_14c0 (.cons yb15_1 y_14c1 (.nil _))))))
          have F15 := Lib.hid (show Frees w14 [(Z + 1 + 1, 0), (Z + 1 + 1, 1), (Z + 1 + 1, 2), (Z + 1 + 1, 3)] from (.cons yb15_2 res_14f0 (.cons yb15_2 res_14f1 (.cons yb15_2 res_14f2 (.cons yb15_2 res_14f3 (.nil _))))))
          clear yb15_0 yb15_1 yb15_2
          go_region_held3 (fun W' => (W'.cell? ⟨X4, 0, none⟩ = some (.int .i64 100000) ∧ W'.cell? ⟨X4, 1, none⟩ = some (.int .i64 100000) ∧ W'.cell? ⟨X5, 0, none⟩ = some (.int .i64 (-100000)) ∧ W'.cell? ⟨X5, 1, none⟩ = some (.int .i64 (-50000))) ∧ (W'.frozen? ⟨Z + 1 + 1, 0, none⟩ = false ∧ W'.frozen? ⟨Z + 1 + 1, 1, none⟩ = false ∧ W'.frozen? ⟨Z + 1 + 1, 2, none⟩ = false ∧ W'.frozen? ⟨Z + 1 + 1, 3, none⟩ = false))
            (first | with_reducible exact And.intro (holds4 Q15.out) (frees4 F15.out) | with_reducible exact And.intro (holds4 (.drew Q15.out)) (frees4 (.drew F15.out)) | with_reducible exact And.intro (holds4 (.drew (Q15.out.alloc _))) (frees4 (.drew (F15.out.alloc _))) | with_reducible exact And.intro (holds4 (.drew ((Q15.out.alloc _).alloc _))) (frees4 (.drew ((F15.out.alloc _).alloc _))) | with_reducible exact And.intro (holds4 Q15a.out) (frees4 F15a.out) | with_reducible exact And.intro (holds4 Q15b.out) (frees4 F15b.out) | with_reducible exact And.intro (holds4 Q15c.out) (frees4 F15c.out) | with_reducible exact And.intro (holds4 Q15d.out) (frees4 F15d.out) | exact And.intro (holds4 ((((Q15d.out.set _ _ _ NR.out).set _ _ _ NR.out).set _ _ _ NR.out).set _ _ _ NR.out)) (frees4 ((((F15d.out.set _ _).set _ _).set _ _).set _ _)) | fail)
            (first | (go_at_call 137; (with_reducible refine (Ha.out _).mono ?_); rintro e w15a ⟨rfl, hb15a⟩; with_reducible (first | (have kb15a : Below w14.heap.size w14 w15a := below_plain hb15a) | (have kb15a : Below w14.heap.size w14 w15a := below_of_drew hb15a)); have Q15a := Lib.hid (Q15.out.below kb15a); have F15a := Lib.hid (F15.out.below kb15a); have HRT := Lib.hid (HRT.out.below kb15a); have kb15aH := Lib.hid kb15a; clear kb15a hb15a; skip) | (go_at_call 137; (with_reducible refine (Hc.out _).mono ?_); rintro e w15b ⟨rfl, hb15b⟩; with_reducible (first | (have kb15b : Below w15a.heap.size w15a w15b := below_plain hb15b) | (have kb15b : Below w15a.heap.size w15a w15b := below_of_drew hb15b)); have Q15b := Lib.hid (Q15a.out.below kb15b); have F15b := Lib.hid (F15a.out.below kb15b); have HRT := Lib.hid (HRT.out.below kb15b); have kb15bH := Lib.hid kb15b; clear kb15b hb15b; skip) | (go_at_call 137; (with_reducible refine (Hc.out _).mono ?_); rintro e w15c ⟨rfl, hb15c⟩; with_reducible (first | (have kb15c : Below w15b.heap.size w15b w15c := below_plain hb15c) | (have kb15c : Below w15b.heap.size w15b w15c := below_of_drew hb15c)); have Q15c := Lib.hid (Q15b.out.below kb15c); have F15c := Lib.hid (F15b.out.below kb15c); have HRT := Lib.hid (HRT.out.below kb15c); have kb15cH := Lib.hid kb15c; clear kb15c hb15c; skip) | (go_at_call 137; (with_reducible refine (Hb.out _).mono ?_); rintro e w15d ⟨rfl, hb15d⟩; with_reducible (first | (have kb15d : Below w15c.heap.size w15c w15d := below_plain hb15d) | (have kb15d : Below w15c.heap.size w15c w15d := below_of_drew hb15d)); have Q15d := Lib.hid (Q15c.out.below kb15d); have F15d := Lib.hid (F15c.out.below kb15d); have HRT := Lib.hid (HRT.out.below kb15d); obtain ⟨rc0, rc1, rc2, rc3⟩ := holds4 HRT.out; have kb15dH := Lib.hid kb15d; clear kb15d hb15d; skip))
          rename_i hHeld
          clear hHeld
          have ss15a := kb15aH.out.size
          have ss15b := kb15bH.out.size
          have ss15c := kb15cH.out.size
          have ss15d := kb15dH.out.size
          have k15 : Below w14.heap.size w14 w15d := (((kb15aH.out.trans (kb15bH.out.mono (by omega))).trans (kb15cH.out.mono (by omega))).trans (kb15dH.out.mono (by omega)))
          clear kb15aH kb15bH kb15cH kb15dH Q15 Q15a Q15b Q15c Q15d F15 F15a F15b F15c F15d
          have S15 := k15.size
          have x_15c0 := (k15.cell (p := ⟨X4, 0, none⟩) (by show X4 < _; omega)).trans x_14c0
          have x_15c1 := (k15.cell (p := ⟨X4, 1, none⟩) (by show X4 < _; omega)).trans x_14c1
          have y_15c0 := (k15.cell (p := ⟨X5, 0, none⟩) (by show X5 < _; omega)).trans y_14c0
          have y_15c1 := (k15.cell (p := ⟨X5, 1, none⟩) (by show X5 < _; omega)).trans y_14c1
          have res_15c0 := (k15.cell (p := ⟨Z + 1 + 1, 0, none⟩) (by show Z + 1 + 1 < _; omega)).trans res_14c0
          have res_15c1 := (k15.cell (p := ⟨Z + 1 + 1, 1, none⟩) (by show Z + 1 + 1 < _; omega)).trans res_14c1
          have res_15c2 := (k15.cell (p := ⟨Z + 1 + 1, 2, none⟩) (by show Z + 1 + 1 < _; omega)).trans res_14c2
          have res_15c3 := (k15.cell (p := ⟨Z + 1 + 1, 3, none⟩) (by show Z + 1 + 1 < _; omega)).trans res_14c3
          have res_15f0 := (k15.frozen (p := ⟨Z + 1 + 1, 0, none⟩) (by show Z + 1 + 1 < _; omega)).trans res_14f0
          have res_15f1 := (k15.frozen (p := ⟨Z + 1 + 1, 1, none⟩) (by show Z + 1 + 1 < _; omega)).trans res_14f1
          have res_15f2 := (k15.frozen (p := ⟨Z + 1 + 1, 2, none⟩) (by show Z + 1 + 1 < _; omega)).trans res_14f2
          have res_15f3 := (k15.frozen (p := ⟨Z + 1 + 1, 3, none⟩) (by show Z + 1 + 1 < _; omega)).trans res_14f3
          have BB15 := Lib.hid (BB14.out.trans (k15.mono BB14.out.size))
          clear k15 x_14c0 x_14c1 y_14c0 y_14c1 res_14c0 res_14c1 res_14c2 res_14c3 res_14f0 res_14f1 res_14f2 res_14f3 BB14
          go_wp2_with fail
          refine bodyPost_ret (v := .tuple #[.agg #[.int .i64 100, .int .i64 (-100), .int .i64 100, .int .i64 (-50)], .bool true]) (by simp [results, Try.results97, go_sem, res_15c0, res_15c1, res_15c2, res_15c3]) rfl ⟨rfl, ((((BB15.out.setCell (p := ⟨Z + 1 + 1, 0, none⟩) (by show _ ≤ Z + 1 + 1; omega) _).setCell (p := ⟨Z + 1 + 1, 1, none⟩) (by show _ ≤ Z + 1 + 1; omega) _).setCell (p := ⟨Z + 1 + 1, 2, none⟩) (by show _ ≤ Z + 1 + 1; omega) _).setCell (p := ⟨Z + 1 + 1, 3, none⟩) (by show _ ≤ Z + 1 + 1; omega) _)⟩
end Go.Proofs.Ytnbdnnbeiohmgaa
