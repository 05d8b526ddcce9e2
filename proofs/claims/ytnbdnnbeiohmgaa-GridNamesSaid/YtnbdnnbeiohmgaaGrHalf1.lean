/- grid.Half: is a cell to the left of a line? -/
import Derived.Test.YtnbdnnbeiohmgaaGrDisc
namespace Go.Proofs.Ytnbdnnbeiohmgaa
open Go.RowKit Go.Shelf Go.Lib

def cornX (S v x : Int) : Int := if v < 0 then x * S + (S - 1) else x * S
def cornY (S u y : Int) : Int := if 0 < u then y * S + (S - 1) else y * S
def leftB (S ax ay bx by' x y : Int) : Bool := decide (0 ≤ (bx - ax) * (cornY S (bx - ax) y - ay) - (by' - ay) * (cornX S (by' - ay) x - ax))

theorem mulIn {a b A B : Int} (h1 : -A ≤ a ∧ a ≤ A) (h2 : -B ≤ b ∧ b ≤ B) : -(A * B) ≤ a * b ∧ a * b ≤ A * B := by
  have hA : 0 ≤ A := by omega
  have hB : 0 ≤ B := by omega
  rcases Int.le_total 0 a with ha | ha <;> rcases Int.le_total 0 b with hb | hb
  · have := Int.mul_le_mul h1.2 h2.2 hb hA
    have := Int.mul_nonneg ha hb
    have := Int.mul_nonneg hA hB
    omega
  · have h := Int.mul_le_mul h1.2 (show -b ≤ B by omega) (by omega) hA
    rw [Int.mul_neg] at h
    have := Int.mul_nonneg ha (show 0 ≤ -b by omega)
    rw [Int.mul_neg] at this
    have := Int.mul_nonneg hA hB
    omega
  · have h := Int.mul_le_mul (show -a ≤ A by omega) h2.2 hb hA
    rw [Int.neg_mul] at h
    have := Int.mul_nonneg (show 0 ≤ -a by omega) hb
    rw [Int.neg_mul] at this
    have := Int.mul_nonneg hA hB
    omega
  · have h := Int.mul_le_mul (show -a ≤ A by omega) (show -b ≤ B by omega) (by omega) hA
    rw [Int.neg_mul_neg] at h
    have := Int.mul_nonneg (show 0 ≤ -a by omega) (show 0 ≤ -b by omega)
    rw [Int.neg_mul_neg] at this
    have := Int.mul_nonneg hA hB
    omega

set_option maxRecDepth 100000 in
set_option maxHeartbeats 8000000 in
theorem half1_gr (S ax ay bx by' x y : Int) (B : Nat) (w : World) (hS : 1 ≤ S ∧ S ≤ 50000) (hax : -16777216 ≤ ax ∧ ax ≤ 16777216) (hay : -16777216 ≤ ay ∧ ay ≤ 16777216) (hbx : -16777216 ≤ bx ∧ bx ≤ 16777216) (hby : -16777216 ≤ by' ∧ by' ≤ 16777216)
    (hx : 0 ≤ x ∧ x ≤ 256) (hy : 0 ≤ y ∧ y ≤ 256) (hB : B + 1 + 1 < w.heap.size) (c2 : w.cell? ⟨B, 2, none⟩ = some (.int .i64 S)) (a0 : w.cell? ⟨B + 1, 0, none⟩ = some (.int .i64 ax)) (a1 : w.cell? ⟨B + 1, 1, none⟩ = some (.int .i64 ay))
    (d0 : w.cell? ⟨B + 1 + 1, 0, none⟩ = some (.int .i64 bx)) (d1 : w.cell? ⟨B + 1 + 1, 1, none⟩ = some (.int .i64 by')) :
    Calls Try.prog 73 #[.agg #[.int .i64 x, .int .i64 y], .pointer (some ⟨B + 1 + 1, 0, none⟩), .pointer (some ⟨B + 1, 0, none⟩), .pointer (some ⟨B, 0, none⟩)] w fun e w' =>
      e = .returned (.bool (leftB S ax ay bx by' x y)) ∧ Below w.heap.size w w' := by
  have hxS := mulIn (a := x) (b := S) (A := 256) (B := 50000) (by omega) (by omega)
  have hyS := mulIn (a := y) (b := S) (A := 256) (B := 50000) (by omega) (by omega)
  obtain ⟨X, hX⟩ : ∃ X, cornX S (by' - ay) x = X := ⟨_, rfl⟩
  obtain ⟨Y, hY⟩ : ∃ Y, cornY S (bx - ax) y = Y := ⟨_, rfl⟩
  have hXb : -12900000 ≤ X ∧ X ≤ 12900000 := by rw [← hX]; unfold cornX; split <;> omega
  have hYb : -12900000 ≤ Y ∧ Y ≤ 12900000 := by rw [← hY]; unfold cornY; split <;> omega
  have p1 := mulIn (a := bx - ax) (b := Y - ay) (A := 33554432) (B := 33554432) (by omega) (by omega)
  have p2 := mulIn (a := by' - ay) (b := X - ax) (A := 33554432) (B := 33554432) (by omega) (by omega)
  have hans : leftB S ax ay bx by' x y = decide (0 ≤ (bx - ax) * (Y - ay) - (by' - ay) * (X - ax)) := by unfold leftB; rw [hX, hY]
  have HAns := Lib.hid hans
  have HX := Lib.hid hX
  have HY := Lib.hid hY
  clear hans hX hY
  obtain ⟨u, hu⟩ : ∃ u, bx - ax = u := ⟨_, rfl⟩
  obtain ⟨v, hv⟩ : ∃ v, by' - ay = v := ⟨_, rfl⟩
  have z1 : wrap64 (bx - ax) = u := by rw [hu]; exact wrapId _ (by omega) (by omega)
  have z2 : wrap64 (by' - ay) = v := by rw [hv]; exact wrapId _ (by omega) (by omega)
  have z1' : IntKind.i64.wrap (bx - ax) = u := by rw [hu]; exact wrapK _ (by omega) (by omega)
  have z2' : IntKind.i64.wrap (by' - ay) = v := by rw [hv]; exact wrapK _ (by omega) (by omega)
  rw [hu] at p1 HAns HY
  rw [hv] at p2 HAns HX
  obtain ⟨xs, hxs⟩ : ∃ q, x * S = q := ⟨_, rfl⟩
  obtain ⟨ys, hys⟩ : ∃ q, y * S = q := ⟨_, rfl⟩
  rw [hxs] at hxS
  rw [hys] at hyS
  unfold cornX at HX
  unfold cornY at HY
  rw [hxs] at HX
  rw [hys] at HY
  have e1 : wrap64 xs = xs := wrapId _ (by omega) (by omega)
  have e2 : wrap64 ys = ys := wrapId _ (by omega) (by omega)
  have e3 : wrap64 (S - 1) = S - 1 := wrapId _ (by omega) (by omega)
  have e4 : wrap64 (xs + (S - 1)) = xs + (S - 1) := wrapId _ (by omega) (by omega)
  have e5 : wrap64 (ys + (S - 1)) = ys + (S - 1) := wrapId _ (by omega) (by omega)
  have e6 : wrap64 (Y - ay) = Y - ay := wrapId _ (by omega) (by omega)
  have e7 : wrap64 (X - ax) = X - ax := wrapId _ (by omega) (by omega)
  obtain ⟨m1, hm1⟩ : ∃ m, u * (Y - ay) = m := ⟨_, rfl⟩
  obtain ⟨m2, hm2⟩ : ∃ m, v * (X - ax) = m := ⟨_, rfl⟩
  rw [hm1] at p1 HAns
  rw [hm2] at p2 HAns
  have e8 : wrap64 m1 = m1 := wrapId _ (by omega) (by omega)
  have e9 : wrap64 m2 = m2 := wrapId _ (by omega) (by omega)
  have e10 : wrap64 (m1 - m2) = m1 - m2 := wrapId _ (by omega) (by omega)
  clear p1 p2
  have b1 := (Below.refl w.heap.size w).alloc (Nat.le_refl _) (.cells #[.int .i64 x, .int .i64 y] 39)
  have hz1 : w.heap.size < (w.alloc (.cells #[.int .i64 x, .int .i64 y] 39)).heap.size := by simp
  have c2 := (World.cell?_alloc_lt w (.cells #[.int .i64 x, .int .i64 y] 39) ⟨B, 2, none⟩ (by show B < w.heap.size; omega)).trans c2
  have a0 := (World.cell?_alloc_lt w (.cells #[.int .i64 x, .int .i64 y] 39) ⟨B + 1, 0, none⟩ (by show B + 1 < w.heap.size; omega)).trans a0
  have a1 := (World.cell?_alloc_lt w (.cells #[.int .i64 x, .int .i64 y] 39) ⟨B + 1, 1, none⟩ (by show B + 1 < w.heap.size; omega)).trans a1
  have d0 := (World.cell?_alloc_lt w (.cells #[.int .i64 x, .int .i64 y] 39) ⟨B + 1 + 1, 0, none⟩ (by show B + 1 + 1 < w.heap.size; omega)).trans d0
  have d1 := (World.cell?_alloc_lt w (.cells #[.int .i64 x, .int .i64 y] 39) ⟨B + 1 + 1, 1, none⟩ (by show B + 1 + 1 < w.heap.size; omega)).trans d1
  go_enter Try.func73, Try.ntmps73
  go_wp2_with fail
  have k0 : (w.alloc (.cells #[.int .i64 x, .int .i64 y] 39)).cell? ⟨w.heap.size, 0, none⟩ = some (.int .i64 x) := by simp [go_sem]
  have k1 : (w.alloc (.cells #[.int .i64 x, .int .i64 y] 39)).cell? ⟨w.heap.size, 1, none⟩ = some (.int .i64 y) := by simp [go_sem]
  obtain ⟨w1, hw1⟩ : ∃ w1, w.alloc (.cells #[.int .i64 x, .int .i64 y] 39) = w1 := ⟨_, rfl⟩
  rw [hw1] at b1 hz1 c2 a0 a1 d0 d1 k0 k1 ⊢
  clear hw1
  go_quiet (fail)
  obtain ⟨w2, hw2⟩ : ∃ w2, w1.drewN nq = w2 := ⟨_, rfl⟩
  have hwb : Below w1.heap.size w1 w2 := by rw [← hw2]; exact belowDrewN (Below.refl _ _) _
  rw [hw2]
  clear hw2
  have b2 := b1.trans (hwb.mono (by omega))
  have c2 := (hwb.cell (p := ⟨B, 2, none⟩) (by show B < w1.heap.size; omega)).trans c2
  have a0 := (hwb.cell (p := ⟨B + 1, 0, none⟩) (by show B + 1 < w1.heap.size; omega)).trans a0
  have a1 := (hwb.cell (p := ⟨B + 1, 1, none⟩) (by show B + 1 < w1.heap.size; omega)).trans a1
  have d0 := (hwb.cell (p := ⟨B + 1 + 1, 0, none⟩) (by show B + 1 + 1 < w1.heap.size; omega)).trans d0
  have d1 := (hwb.cell (p := ⟨B + 1 + 1, 1, none⟩) (by show B + 1 + 1 < w1.heap.size; omega)).trans d1
  have k0 := (hwb.cell (p := ⟨w.heap.size, 0, none⟩) hz1).trans k0
  have k1 := (hwb.cell (p := ⟨w.heap.size, 1, none⟩) hz1).trans k1
  have hz2 := hwb.size
  have n0 : w.heap.size < w2.heap.size := by omega
  have n1 : B < w2.heap.size := by omega
  have n2 : B + 1 < w2.heap.size := by omega
  have n3 : B + 1 + 1 < w2.heap.size := by omega
  clear hwb b1
  by_cases hu0 : 0 < u
  · by_cases hv0 : v < 0
    · have hYe : ys + (S - 1) = Y := by have := HY.out; rw [if_pos hu0] at this; exact this
      have hXe : xs + (S - 1) = X := by have := HX.out; rw [if_pos hv0] at this; exact this
      go_wp2_with fail
      go_ret
      refine ⟨retOf (congrArg Value.bool (by rw [HAns.out]; exact decide_eq_decide.2 (by omega))), ?_⟩
      all_goals exact b2.alloc (by omega) _
    · have hYe : ys + (S - 1) = Y := by have := HY.out; rw [if_pos hu0] at this; exact this
      have hXe : xs = X := by have := HX.out; rw [if_neg hv0] at this; exact this
      have hv1 : 0 ≤ v := by omega
      rw [hXe] at e1 hxS
      go_wp2_with fail
      go_ret
      refine ⟨retOf (congrArg Value.bool (by rw [HAns.out]; exact decide_eq_decide.2 (by omega))), ?_⟩
      all_goals exact b2.alloc (by omega) _
  · by_cases hv0 : v < 0
    · have hYe : ys = Y := by have := HY.out; rw [if_neg hu0] at this; exact this
      have hu1 : u ≤ 0 := by omega
      have hXe : xs + (S - 1) = X := by have := HX.out; rw [if_pos hv0] at this; exact this
      rw [hYe] at e2 hyS
      go_wp2_with fail
      go_ret
      refine ⟨retOf (congrArg Value.bool (by rw [HAns.out]; exact decide_eq_decide.2 (by omega))), ?_⟩
      all_goals exact b2.alloc (by omega) _
    · have hYe : ys = Y := by have := HY.out; rw [if_neg hu0] at this; exact this
      have hu1 : u ≤ 0 := by omega
      have hXe : xs = X := by have := HX.out; rw [if_neg hv0] at this; exact this
      have hv1 : 0 ≤ v := by omega
      rw [hYe] at e2 hyS
      rw [hXe] at e1 hxS
      go_wp2_with fail
      go_ret
      refine ⟨retOf (congrArg Value.bool (by rw [HAns.out]; exact decide_eq_decide.2 (by omega))), ?_⟩
      all_goals exact b2.alloc (by omega) _
end Go.Proofs.Ytnbdnnbeiohmgaa
