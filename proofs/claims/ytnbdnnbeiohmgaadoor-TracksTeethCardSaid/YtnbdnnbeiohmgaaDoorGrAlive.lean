/- cressetlaw03.alive. -/
import Derived.Test.YtnbdnnbeiohmgaaDoorGrWithout
import Derived.Test.YtnbdnnbeiohmgaaDoorGrGrow
import Derived.Deep.RegionHeld3
namespace Go.Proofs.YtnbdnnbeiohmgaaDoor
open Go.RowKit Go.Shelf Go.Lib

end Go.Proofs.YtnbdnnbeiohmgaaDoor
