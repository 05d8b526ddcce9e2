/- grid.Half. -/
import Derived.Laws.EntriesVeiled
import Derived.Test.YtnbdnnbeiohmgaaDoorGrHalf2
namespace Go.Proofs.YtnbdnnbeiohmgaaDoor
open Go.RowKit Go.Shelf Go.Lib

theorem halfRow_le (W : Int) (L : Int → Bool) (hW : 1 ≤ W ∧ W ≤ 256) : -1152921504606846976 ≤ (halfRow W L).2 ∧ (halfRow W L).2 ≤ 1152921504606846976 := by
  have h1 := upTo_spec (L := L) (hi := W - 1) W.toNat 0
  have h2 := dnTo_spec (L := L) (lo := upTo L (W - 1) W.toNat 0) W.toNat (W - 1)
  simp only [halfRow]
  omega

def halfOK (W H S : Int) (ld : List R3) (a b : Int × Int) : Bool := checkG W H S ld && (nearS a && nearS b) && !decide (a = b)

end Go.Proofs.YtnbdnnbeiohmgaaDoor
