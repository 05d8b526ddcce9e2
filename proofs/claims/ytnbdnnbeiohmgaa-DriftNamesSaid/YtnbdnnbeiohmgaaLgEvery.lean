/- The document's every: the cells of a grid. -/
import Derived.Test.YtnbdnnbeiohmgaaLgA
import Derived.Test.YtnbdnnbeiohmgaaGrCells
namespace Go.Proofs.Ytnbdnnbeiohmgaa
open Go.RowKit Go.Shelf

theorem encC_len (x : Int × Int) : (encC x).length = 2 := rfl
end Go.Proofs.Ytnbdnnbeiohmgaa
