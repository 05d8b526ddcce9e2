/- grid.Half: is a cell to the left of a line? -/
import Derived.Test.YtnbdnnbeiohmgaaDoorGrDisc
namespace Go.Proofs.YtnbdnnbeiohmgaaDoor
open Go.RowKit Go.Shelf Go.Lib

def cornX (S v x : Int) : Int := if v < 0 then x * S + (S - 1) else x * S
def cornY (S u y : Int) : Int := if 0 < u then y * S + (S - 1) else y * S
def leftB (S ax ay bx by' x y : Int) : Bool := decide (0 ≤ (bx - ax) * (cornY S (bx - ax) y - ay) - (by' - ay) * (cornX S (by' - ay) x - ax))

theorem mulIn {a b A B : Int} (h1 : -A ≤ a ∧ a ≤ A) (h2 : -B ≤ b ∧ b ≤ B) : -(A * B) ≤ a * b ∧ a * b ≤ A * B := by
  have hA : 0 ≤ A := by omega
  have hB : 0 ≤ B := by omega
  rcases Int.le_total 0 a with ha | ha <;> rcases Int.le_total 0 b with hb | hb
  · have := Int.mul_le_mul h1.2 h2.2 hb hA
    have := Int.mul_nonneg ha hb
    have := Int.mul_nonneg hA hB
    omega
  · have h := Int.mul_le_mul h1.2 (show -b ≤ B by omega) (by omega) hA
    rw [Int.mul_neg] at h
    have := Int.mul_nonneg ha (show 0 ≤ -b by omega)
    rw [Int.mul_neg] at this
    have := Int.mul_nonneg hA hB
    omega
  · have h := Int.mul_le_mul (show -a ≤ A by omega) h2.2 hb hA
    rw [Int.neg_mul] at h
    have := Int.mul_nonneg (show 0 ≤ -a by omega) hb
    rw [Int.neg_mul] at this
    have := Int.mul_nonneg hA hB
    omega
  · have h := Int.mul_le_mul (show -a ≤ A by omega) (show -b ≤ B by omega) (by omega) hA
    rw [Int.neg_mul_neg] at h
    have := Int.mul_nonneg (show 0 ≤ -a by omega) (show 0 ≤ -b by omega)
    rw [Int.neg_mul_neg] at this
    have := Int.mul_nonneg hA hB
    omega

end Go.Proofs.YtnbdnnbeiohmgaaDoor
