/- GridMoves: pick, of, move. -/
import Derived.Deep.RegionHeld3
import Derived.Test.YtnbdnnbeiohmgaaDoorGrA
namespace Go.Proofs.YtnbdnnbeiohmgaaDoor
open Go.RowKit

theorem tmod_in {t n : Int} (ht : 0 ≤ t) (hn : 1 ≤ n) : 0 ≤ t.tmod n ∧ t.tmod n < n := by
  rw [Int.tmod_eq_emod_of_nonneg ht]
  exact ⟨Int.emod_nonneg _ (by omega), Int.emod_lt_of_pos _ (by omega)⟩

end Go.Proofs.YtnbdnnbeiohmgaaDoor
