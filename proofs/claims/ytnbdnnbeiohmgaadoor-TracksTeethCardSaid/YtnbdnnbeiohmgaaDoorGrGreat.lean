/- cressetref03.Great. -/
import Derived.Test.YtnbdnnbeiohmgaaDoorGrAlive
import Derived.Test.YtnbdnnbeiohmgaaDoorGrHalf
namespace Go.Proofs.YtnbdnnbeiohmgaaDoor
open Go.RowKit Go.Shelf Go.Lib

end Go.Proofs.YtnbdnnbeiohmgaaDoor
