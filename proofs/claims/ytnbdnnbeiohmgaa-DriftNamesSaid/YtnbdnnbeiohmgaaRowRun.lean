/- An argument that is a list of runs, or a grid, opened. -/
import Derived.Test.YtnbdnnbeiohmgaaSeat
import Derived.Test.YtnbdnnbeiohmgaaGrA
import Derived.Deep.Slices
import Derived.Deep.Strs
namespace Go.Proofs.Ytnbdnnbeiohmgaa
open Go Go.ChangeShapes Go.WideShapes Go.ChangeAt Go.RowKit Go.Deep

section
variable {H : Type} {enc : TypeId × Value → H} {w : World} {sp : Nat → Bool} {held : Bool}

end
end Go.Proofs.Ytnbdnnbeiohmgaa
