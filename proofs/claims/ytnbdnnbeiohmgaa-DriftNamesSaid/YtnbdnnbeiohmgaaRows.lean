/-
  No cell of these rows narrows 'for every input' (looked for: loops, veiled, ifaces, maps, wideKeys, modest, calm, conditions, laid).
  DERIVED. THE GIVEN ROWS OF THIS SEAT. 6 by the template 'for every input the law returns true; each argument reads behind the call as it read before'; 0 by the template 'total and deterministic' (their statements: YtnbdnnbeiohmgaaTotals.lean).
  GIVEN WITH THE SEED: the statements are not yours to turn. If you find one false, say at which input.
  Laid BY PROGRAM, IN A SANDBOX (cutbox-rows.mjs): the forced cells as the released guide's own fill.sh prints them over the translation 88735e19fb8255ec… (all of the seat's roots in one cut). By AI agents, Wed Nov 11 2026. No macro, syntax, notation, axiom, sorry.
-/
import Derived.Test.YtnbdnnbeiohmgaaChecked
import GoSem.Claim
import GoSem.ClaimJoined
import GoSem.ClaimMapViews
import Derived.JoinedTies
import Derived.KernelRfl
namespace Go.Proofs.Ytnbdnnbeiohmgaa
/- THE CELL 'sum', in the pinned program and in every row, IS THE sha256 OF THE DUMP (.gsa) THAT YtnbdnnbeiohmgaaProg.lean LOADS. Nothing in Lean hashes anything: it is a label: what it is worth is what the hold of that sum in a sandbox is worth. -/
noncomputable def Try.pinned : Pinned := { name := "ytnbdnnbeiohmgaa", sum := "88735e19fb8255ec473f52f48aa528d64a025ebb4f12c9b02343c72f3edfc99c", checked := Try.checked }
namespace Rows
def none {H : Type} : Left H := { results := [], args := [] }

/-- 'cressetlaw03.GridMoves': WHATEVER THE INPUT: true; the input reads as it did. -/
def gridMovesSpec : ChangeSpec := { name := "gridMoves", fn := fun _ => fun
  | [d1, d2, d3, d4, d5, d6] => { results := [.lit (.bool true)], args := [d1, d2, d3, d4, d5, d6] }
  | _ => none }
def gridMovesRow : OpenClaim := { program := "ytnbdnnbeiohmgaa", sum := "88735e19fb8255ec473f52f48aa528d64a025ebb4f12c9b02343c72f3edfc99c", func := "cresset/cressetlaw03.GridMoves", spec := "gridMoves", unfollowed := true, recurses := true, plainKeys := false, apart := false }
def GridMovesSaid : Prop := gridMovesRow.holds Try.pinned (OpenSpec.ofChange gridMovesSpec)

/-- ITS FALSE NEIGHBOUR: 'it returns false'. Refute it at one input. -/
def gridMovesWrong : ChangeSpec := { name := "gridMoves", fn := fun _ => fun
  | [d1, d2, d3, d4, d5, d6] => { results := [.lit (.bool false)], args := [d1, d2, d3, d4, d5, d6] }
  | _ => none }
def GridMovesWrongFalsely : Prop := gridMovesRow.holds Try.pinned (OpenSpec.ofChange gridMovesWrong)

/-- 'cressetlaw03.GridLong': WHATEVER THE INPUT: true; the input reads as it did. -/
def gridLongSpec : ChangeSpec := { name := "gridLong", fn := fun _ => fun
  | [d1, d2, d3] => { results := [.lit (.bool true)], args := [d1, d2, d3] }
  | _ => none }
def gridLongRow : OpenClaim := { program := "ytnbdnnbeiohmgaa", sum := "88735e19fb8255ec473f52f48aa528d64a025ebb4f12c9b02343c72f3edfc99c", func := "cresset/cressetlaw03.GridLong", spec := "gridLong", unfollowed := true, recurses := true, plainKeys := false, apart := false }
def GridLongSaid : Prop := gridLongRow.holds Try.pinned (OpenSpec.ofChange gridLongSpec)

/-- ITS FALSE NEIGHBOUR: 'it returns false'. Refute it at one input. -/
def gridLongWrong : ChangeSpec := { name := "gridLong", fn := fun _ => fun
  | [d1, d2, d3] => { results := [.lit (.bool false)], args := [d1, d2, d3] }
  | _ => none }
def GridLongWrongFalsely : Prop := gridLongRow.holds Try.pinned (OpenSpec.ofChange gridLongWrong)

/-- 'cressetlaw03.GridReaches': WHATEVER THE INPUT: true; the input reads as it did. -/
def gridReachesSpec : ChangeSpec := { name := "gridReaches", fn := fun _ => fun
  | [d1, d2, d3, d4, d5] => { results := [.lit (.bool true)], args := [d1, d2, d3, d4, d5] }
  | _ => none }
def gridReachesRow : OpenClaim := { program := "ytnbdnnbeiohmgaa", sum := "88735e19fb8255ec473f52f48aa528d64a025ebb4f12c9b02343c72f3edfc99c", func := "cresset/cressetlaw03.GridReaches", spec := "gridReaches", unfollowed := true, recurses := true, plainKeys := false, apart := false }
def GridReachesSaid : Prop := gridReachesRow.holds Try.pinned (OpenSpec.ofChange gridReachesSpec)

/-- ITS FALSE NEIGHBOUR: 'it returns false'. Refute it at one input. -/
def gridReachesWrong : ChangeSpec := { name := "gridReaches", fn := fun _ => fun
  | [d1, d2, d3, d4, d5] => { results := [.lit (.bool false)], args := [d1, d2, d3, d4, d5] }
  | _ => none }
def GridReachesWrongFalsely : Prop := gridReachesRow.holds Try.pinned (OpenSpec.ofChange gridReachesWrong)

/-- 'cressetlaw08.TracksReach': WHATEVER THE INPUT: true; the input reads as it did. -/
def tracksReachSpec : ChangeSpec := { name := "tracksReach", fn := fun _ => fun
  | [d1, d2, d3, d4, d5, d6] => { results := [.lit (.bool true)], args := [d1, d2, d3, d4, d5, d6] }
  | _ => none }
def tracksReachRow : OpenClaim := { program := "ytnbdnnbeiohmgaa", sum := "88735e19fb8255ec473f52f48aa528d64a025ebb4f12c9b02343c72f3edfc99c", func := "cresset/cressetlaw08.TracksReach", spec := "tracksReach", unfollowed := true, recurses := true, plainKeys := false, apart := false }
def TracksReachSaid : Prop := tracksReachRow.holds Try.pinned (OpenSpec.ofChange tracksReachSpec)

/-- ITS FALSE NEIGHBOUR: 'it returns false'. Refute it at one input. -/
def tracksReachWrong : ChangeSpec := { name := "tracksReach", fn := fun _ => fun
  | [d1, d2, d3, d4, d5, d6] => { results := [.lit (.bool false)], args := [d1, d2, d3, d4, d5, d6] }
  | _ => none }
def TracksReachWrongFalsely : Prop := tracksReachRow.holds Try.pinned (OpenSpec.ofChange tracksReachWrong)

/-- 'cressetlaw03.GridNames': WHATEVER THE INPUT: true; the input reads as it did. -/
def gridNamesSpec : ChangeSpec := { name := "gridNames", fn := fun _ => fun
  | [] => { results := [.lit (.bool true)], args := [] }
  | _ => none }
def gridNamesRow : OpenClaim := { program := "ytnbdnnbeiohmgaa", sum := "88735e19fb8255ec473f52f48aa528d64a025ebb4f12c9b02343c72f3edfc99c", func := "cresset/cressetlaw03.GridNames", spec := "gridNames", inPlace := ["internal/abi.NoEscape", "internal/bytealg.MakeNoZero"], unfollowed := true, recurses := true, plainKeys := false, apart := false }
def GridNamesSaid : Prop := gridNamesRow.holds Try.pinned (OpenSpec.ofChange gridNamesSpec)

/-- ITS FALSE NEIGHBOUR: 'it returns false'. Refute it at one input. -/
def gridNamesWrong : ChangeSpec := { name := "gridNames", fn := fun _ => fun
  | [] => { results := [.lit (.bool false)], args := [] }
  | _ => none }
def GridNamesWrongFalsely : Prop := gridNamesRow.holds Try.pinned (OpenSpec.ofChange gridNamesWrong)

/-- 'cressetlaw04.DriftNames': WHATEVER THE INPUT: true; the input reads as it did. -/
def driftNamesSpec : ChangeSpec := { name := "driftNames", fn := fun _ => fun
  | [] => { results := [.lit (.bool true)], args := [] }
  | _ => none }
def driftNamesRow : OpenClaim := { program := "ytnbdnnbeiohmgaa", sum := "88735e19fb8255ec473f52f48aa528d64a025ebb4f12c9b02343c72f3edfc99c", func := "cresset/cressetlaw04.DriftNames", spec := "driftNames", unfollowed := true, recurses := true, plainKeys := false, apart := false }
def DriftNamesSaid : Prop := driftNamesRow.holds Try.pinned (OpenSpec.ofChange driftNamesSpec)

/-- ITS FALSE NEIGHBOUR: 'it returns false'. Refute it at one input. -/
def driftNamesWrong : ChangeSpec := { name := "driftNames", fn := fun _ => fun
  | [] => { results := [.lit (.bool false)], args := [] }
  | _ => none }
def DriftNamesWrongFalsely : Prop := driftNamesRow.holds Try.pinned (OpenSpec.ofChange driftNamesWrong)

/- THE SECOND FORM. 'bulk': how many values and letters a reading holds, each counted each time it is reached (what is shared counts as often as it is met; a slice's spare places count too). A statement '..UptoSaid' is the law's where the arguments, and the package variables that the reading takes, are together of bulk at most 1048576: NARROWER than '..Said'. Prove '..Said' where nothing that the law and all that it calls make is longer than what came in: it says more and counts as full. Else prove '..UptoSaid'. A law counts once. -/
mutual
def uptoBulk {H : Type} : DataW H → Nat
  | .lit (.string bytes) => bytes.length + 1
  | .lit _ => 1
  | .nil => 1
  | .ptr d => uptoBulk d + 1
  | .slice elems spare => uptoBulkAll elems + uptoBulkAll spare + 1
  | .agg parts => uptoBulkAll parts + 1
  | .iface _ d => uptoBulk d + 1
  | .map entries => uptoBulkEntries entries + 1
  | .held _ => 1
def uptoBulkAll {H : Type} : List (DataW H) → Nat
  | [] => 0
  | d :: r => uptoBulk d + uptoBulkAll r
def uptoBulkEntries {H : Type} : List (Lit × DataW H) → Nat
  | [] => 0
  | x :: r => uptoBulkEntry x + uptoBulkEntries r
def uptoBulkEntry {H : Type} : Lit × DataW H → Nat
  | (.string bytes, d) => bytes.length + uptoBulk d + 1
  | (_, d) => uptoBulk d + 1
 end
def uptoSmall : (H : Type) → List (DataW H) → Bool := fun _ ds => decide (uptoBulkAll ds ≤ 1048576)
def OpenSpec.upto (s : _root_.Go.ChangeSpec) : _root_.Go.OpenSpec := { _root_.Go.OpenSpec.ofChange s with cond := some uptoSmall }

/-- 'cressetlaw03.GridMoves', WHERE WHAT IT READS IS OF BULK AT MOST 1048576: true; the input reads as it did. -/
def gridMovesUptoRow : OpenClaim := { program := "ytnbdnnbeiohmgaa", sum := "88735e19fb8255ec473f52f48aa528d64a025ebb4f12c9b02343c72f3edfc99c", func := "cresset/cressetlaw03.GridMoves", spec := "gridMoves", unfollowed := true, recurses := true, plainKeys := false, apart := false, narrowed := true }
def GridMovesUptoSaid : Prop := gridMovesUptoRow.holds Try.pinned (OpenSpec.upto gridMovesSpec)

/-- 'cressetlaw03.GridLong', WHERE WHAT IT READS IS OF BULK AT MOST 1048576: true; the input reads as it did. -/
def gridLongUptoRow : OpenClaim := { program := "ytnbdnnbeiohmgaa", sum := "88735e19fb8255ec473f52f48aa528d64a025ebb4f12c9b02343c72f3edfc99c", func := "cresset/cressetlaw03.GridLong", spec := "gridLong", unfollowed := true, recurses := true, plainKeys := false, apart := false, narrowed := true }
def GridLongUptoSaid : Prop := gridLongUptoRow.holds Try.pinned (OpenSpec.upto gridLongSpec)

/-- 'cressetlaw03.GridReaches', WHERE WHAT IT READS IS OF BULK AT MOST 1048576: true; the input reads as it did. -/
def gridReachesUptoRow : OpenClaim := { program := "ytnbdnnbeiohmgaa", sum := "88735e19fb8255ec473f52f48aa528d64a025ebb4f12c9b02343c72f3edfc99c", func := "cresset/cressetlaw03.GridReaches", spec := "gridReaches", unfollowed := true, recurses := true, plainKeys := false, apart := false, narrowed := true }
def GridReachesUptoSaid : Prop := gridReachesUptoRow.holds Try.pinned (OpenSpec.upto gridReachesSpec)

/-- 'cressetlaw08.TracksReach', WHERE WHAT IT READS IS OF BULK AT MOST 1048576: true; the input reads as it did. -/
def tracksReachUptoRow : OpenClaim := { program := "ytnbdnnbeiohmgaa", sum := "88735e19fb8255ec473f52f48aa528d64a025ebb4f12c9b02343c72f3edfc99c", func := "cresset/cressetlaw08.TracksReach", spec := "tracksReach", unfollowed := true, recurses := true, plainKeys := false, apart := false, narrowed := true }
def TracksReachUptoSaid : Prop := tracksReachUptoRow.holds Try.pinned (OpenSpec.upto tracksReachSpec)

/-- 'cressetlaw03.GridNames', WHERE WHAT IT READS IS OF BULK AT MOST 1048576: true; the input reads as it did. -/
def gridNamesUptoRow : OpenClaim := { program := "ytnbdnnbeiohmgaa", sum := "88735e19fb8255ec473f52f48aa528d64a025ebb4f12c9b02343c72f3edfc99c", func := "cresset/cressetlaw03.GridNames", spec := "gridNames", inPlace := ["internal/abi.NoEscape", "internal/bytealg.MakeNoZero"], unfollowed := true, recurses := true, plainKeys := false, apart := false, narrowed := true }
def GridNamesUptoSaid : Prop := gridNamesUptoRow.holds Try.pinned (OpenSpec.upto gridNamesSpec)

/-- 'cressetlaw04.DriftNames', WHERE WHAT IT READS IS OF BULK AT MOST 1048576: true; the input reads as it did. -/
def driftNamesUptoRow : OpenClaim := { program := "ytnbdnnbeiohmgaa", sum := "88735e19fb8255ec473f52f48aa528d64a025ebb4f12c9b02343c72f3edfc99c", func := "cresset/cressetlaw04.DriftNames", spec := "driftNames", unfollowed := true, recurses := true, plainKeys := false, apart := false, narrowed := true }
def DriftNamesUptoSaid : Prop := driftNamesUptoRow.holds Try.pinned (OpenSpec.upto driftNamesSpec)

end Rows
end Go.Proofs.Ytnbdnnbeiohmgaa
