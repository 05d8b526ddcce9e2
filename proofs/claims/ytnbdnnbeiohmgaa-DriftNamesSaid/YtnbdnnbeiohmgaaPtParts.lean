/- grid.Parts. -/
import Derived.Test.YtnbdnnbeiohmgaaPtA
import Derived.Shelf.RegionOpen
import Derived.Sort.CutIn
import Derived.LoopNIn
import Derived.LoopIn
namespace Go.Proofs.Ytnbdnnbeiohmgaa
open Go.RowKit Go.Maps Go.Shelf Go.Lib
attribute [local go_sem] Oper.semAt_some

end Go.Proofs.Ytnbdnnbeiohmgaa
