/- grid.Disc. -/
import Derived.Test.YtnbdnnbeiohmgaaDoorGrB
import Derived.Deep.RegionHeld3
namespace Go.Proofs.YtnbdnnbeiohmgaaDoor
open Go.RowKit Go.Shelf Go.Lib

/-- the root, rounded down -/
noncomputable def rootZ (n : Int) : Int := @dite _ (∃ r : Int, 0 ≤ r ∧ r * r ≤ n ∧ n < (r + 1) * (r + 1)) (Classical.propDecidable _) (fun h => Classical.choose h) (fun _ => 0)
theorem rootZ_eq {n r : Int} (h0 : 0 ≤ r) (h1 : r * r ≤ n) (h2 : n < (r + 1) * (r + 1)) : rootZ n = r := by
  have hex : ∃ r : Int, 0 ≤ r ∧ r * r ≤ n ∧ n < (r + 1) * (r + 1) := ⟨r, h0, h1, h2⟩
  have e : rootZ n = Classical.choose hex := by
    unfold rootZ
    exact dif_pos hex
  obtain ⟨k0, k1, k2⟩ := Classical.choose_spec hex
  rw [e]
  generalize Classical.choose hex = q at k0 k1 k2
  rcases Int.lt_trichotomy q r with h | h | h
  · have := Int.mul_le_mul (a := q + 1) (b := q + 1) (c := r) (d := r) (by omega) (by omega) (by omega) (by omega)
    omega
  · exact h
  · have := Int.mul_le_mul (a := r + 1) (b := r + 1) (c := q) (d := q) (by omega) (by omega) (by omega) (by omega)
    omega

noncomputable def discRow (S sx sy r : Int) (y : Nat) : Int × Int :=
  if r < awayZ S sy y then (0, -1) else ((sx - rootZ (r * r - awayZ S sy y * awayZ S sy y)) / S, (sx + rootZ (r * r - awayZ S sy y * awayZ S sy y)) / S)

theorem discRow_le (S sx sy r : Int) (hS : 1 ≤ S ∧ S ≤ 50000) (hx : -16777216 ≤ sx ∧ sx ≤ 16777216) (hr : 0 ≤ r ∧ r ≤ 16777216) (y : Nat) : -1152921504606846976 ≤ (discRow S sx sy r y).2 ∧ (discRow S sx sy r y).2 ≤ 1152921504606846976 := by
  unfold discRow
  split
  · simp
  · have hn : r * r - awayZ S sy y * awayZ S sy y ≤ 281474976710656 := by
      have h1 := Int.mul_le_mul (a := r) (b := r) (c := 16777216) (d := 16777216) (by omega) (by omega) (by omega) (by omega)
      have hd0 : 0 ≤ awayZ S sy y := by unfold awayZ; omega
      have h2 := Int.mul_nonneg hd0 hd0
      omega
    generalize r * r - awayZ S sy y * awayZ S sy y = n at hn
    have hq : 0 ≤ rootZ n ∧ rootZ n ≤ 16777216 := by
      unfold rootZ
      split
      · rename_i h
        obtain ⟨k0, k1, -⟩ := Classical.choose_spec h
        refine ⟨k0, ?_⟩
        generalize Classical.choose h = q at k0 k1
        by_cases hq : q ≤ 16777216
        · exact hq
        · have := Int.mul_le_mul (a := 16777217) (b := 16777217) (c := q) (d := q) (by omega) (by omega) (by omega) (by omega)
          omega
      · simp
    dsimp only
    have h3 : (sx + rootZ n) / S ≤ 33554432 := by
      rcases Int.lt_or_le (sx + rootZ n) 0 with h | h
      · have : (sx + rootZ n) / S < 0 := Int.ediv_neg_of_neg_of_pos h (by omega)
        omega
      · have := Int.ediv_le_self S h
        omega
    have h4 : -33554432 ≤ (sx + rootZ n) / S := by
      have := (Int.le_ediv_iff_mul_le (a := -33554432) (b := sx + rootZ n) (c := S) (by omega)).2 (by omega)
      exact this
    omega

end Go.Proofs.YtnbdnnbeiohmgaaDoor
