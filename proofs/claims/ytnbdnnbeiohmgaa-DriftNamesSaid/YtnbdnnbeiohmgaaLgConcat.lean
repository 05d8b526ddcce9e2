/- slices.Grow of nil; slices.Concat of two lists of runs, neither empty. -/
import Derived.Test.YtnbdnnbeiohmgaaGrE
import Derived.Lib.AppendZeros
import Derived.Deep.Slices
namespace Go.Proofs.Ytnbdnnbeiohmgaa
open Go.RowKit Go.Shelf Go.Lib

end Go.Proofs.Ytnbdnnbeiohmgaa
