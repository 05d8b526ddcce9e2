/-
  NARROWER THAN 'FOR EVERY INPUT', by the rows' own cells (each row's printed sentence says how): TracksRings: laid · TracksTeeth: laid · TracksNames: laid.
  DERIVED. THE GIVEN ROWS OF THIS SEAT. 3 by the template 'for every input the law returns true; each argument reads behind the call as it read before'; 0 by the template 'total and deterministic' (their statements: YtnbdnnbeiohmgaaDoorTotals.lean).
  GIVEN WITH THE SEED: the statements are not yours to turn. If you find one false, say at which input.
  Laid BY PROGRAM, IN A SANDBOX (cutbox-rows.mjs): the forced cells as the released guide's own fill.sh prints them over the translation b560bfb6d3551fe6… (all of the seat's roots in one cut). By AI agents, Wed Nov 11 2026. No macro, syntax, notation, axiom, sorry.
-/
import Derived.Test.YtnbdnnbeiohmgaaDoorChecked
import GoSem.Claim
import GoSem.ClaimJoined
import GoSem.ClaimMapViews
import Derived.JoinedTies
import Derived.KernelRfl
namespace Go.Proofs.YtnbdnnbeiohmgaaDoor
/- THE CELL 'sum', in the pinned program and in every row, IS THE sha256 OF THE DUMP (.gsa) THAT YtnbdnnbeiohmgaaDoorProg.lean LOADS. Nothing in Lean hashes anything: it is a label: what it is worth is what the hold of that sum in a sandbox is worth. -/
noncomputable def Tryd.pinned : Pinned := { name := "ytnbdnnbeiohmgaadoor", sum := "b560bfb6d3551fe61712cf4ed93d51816915e5c8ff818151795df35f3fe64931", checked := Tryd.checked }
namespace Rows
def none {H : Type} : Left H := { results := [], args := [] }

/- WHAT THE LISTED PACKAGE-LEVEL VARIABLES READ AS WHEN THE CALL BEGINS. Each datum BY PROGRAM (the guide's laid-datum.mjs) off the statement by which the dump's own 'gosem.cut.vars' lays the variable. In a bare row this is a premise. The card (YtnbdnnbeiohmgaaDoorCards.lean) ties it to the program's text. -/
def laid_cresset_tracks_sides {H : Type} : DataW H := .agg [.agg [.lit (.int .i64 1), .lit (.int .i64 0)], .agg [.lit (.int .i64 0), .lit (.int .i64 1)], .agg [.lit (.int .i64 (-1)), .lit (.int .i64 0)], .agg [.lit (.int .i64 0), .lit (.int .i64 (-1))]]
def laid_cresset_tracks_star {H : Type} : DataW H := .agg [.agg [.lit (.int .i64 0), .lit (.int .i64 0)], .agg [.lit (.int .i64 1), .lit (.int .i64 0)], .agg [.lit (.int .i64 1), .lit (.int .i64 1)], .agg [.lit (.int .i64 0), .lit (.int .i64 0)], .agg [.lit (.int .i64 0), .lit (.int .i64 1)], .agg [.lit (.int .i64 (-1)), .lit (.int .i64 1)], .agg [.lit (.int .i64 0), .lit (.int .i64 0)], .agg [.lit (.int .i64 (-1)), .lit (.int .i64 0)], .agg [.lit (.int .i64 (-1)), .lit (.int .i64 (-1))], .agg [.lit (.int .i64 0), .lit (.int .i64 0)], .agg [.lit (.int .i64 0), .lit (.int .i64 (-1))], .agg [.lit (.int .i64 1), .lit (.int .i64 (-1))], .agg [.lit (.int .i64 0), .lit (.int .i64 0)]]
def laid_cresset_tracks_corners {H : Type} : DataW H := .agg [.agg [.lit (.int .i64 0), .lit (.int .i64 0)], .agg [.lit (.int .i64 (-1)), .lit (.int .i64 0)], .agg [.lit (.int .i64 (-1)), .lit (.int .i64 (-1))], .agg [.lit (.int .i64 0), .lit (.int .i64 (-1))]]

/-- 'cressetlaw08.TracksRings': WHATEVER THE INPUT: true; the input reads as it did. -/
def tracksRingsSpec : ChangeSpec := { name := "tracksRings", fn := fun _ => fun
  | [d1, d2, d3, d4, d5] => { results := [.lit (.bool true)], args := [d1, d2, d3, d4, d5] }
  | _ => none }
def tracksRingsRow : OpenClaim := { program := "ytnbdnnbeiohmgaadoor", sum := "b560bfb6d3551fe61712cf4ed93d51816915e5c8ff818151795df35f3fe64931", func := "cresset/cressetlaw08.TracksRings", spec := "tracksRings", unfollowed := true, recurses := true, named := ["cresset/tracks.sides", "cresset/tracks.star"], plainKeys := false, apart := false, laid := [("cresset/tracks.sides", laid_cresset_tracks_sides), ("cresset/tracks.star", laid_cresset_tracks_star)] }
def TracksRingsSaid : Prop := tracksRingsRow.holds Tryd.pinned (OpenSpec.ofChange tracksRingsSpec)

/-- ITS FALSE NEIGHBOUR: 'it returns false'. Refute it at one input. -/
def tracksRingsWrong : ChangeSpec := { name := "tracksRings", fn := fun _ => fun
  | [d1, d2, d3, d4, d5] => { results := [.lit (.bool false)], args := [d1, d2, d3, d4, d5] }
  | _ => none }
def TracksRingsWrongFalsely : Prop := tracksRingsRow.holds Tryd.pinned (OpenSpec.ofChange tracksRingsWrong)

/-- 'cressetlaw08.TracksTeeth': WHATEVER THE INPUT: true; the input reads as it did. -/
def tracksTeethSpec : ChangeSpec := { name := "tracksTeeth", fn := fun _ => fun
  | [d1, d2, d3] => { results := [.lit (.bool true)], args := [d1, d2, d3] }
  | _ => none }
def tracksTeethRow : OpenClaim := { program := "ytnbdnnbeiohmgaadoor", sum := "b560bfb6d3551fe61712cf4ed93d51816915e5c8ff818151795df35f3fe64931", func := "cresset/cressetlaw08.TracksTeeth", spec := "tracksTeeth", unfollowed := true, recurses := true, named := ["cresset/tracks.sides", "cresset/tracks.corners"], plainKeys := false, apart := false, laid := [("cresset/tracks.sides", laid_cresset_tracks_sides), ("cresset/tracks.corners", laid_cresset_tracks_corners)] }
def TracksTeethSaid : Prop := tracksTeethRow.holds Tryd.pinned (OpenSpec.ofChange tracksTeethSpec)

/-- ITS FALSE NEIGHBOUR: 'it returns false'. Refute it at one input. -/
def tracksTeethWrong : ChangeSpec := { name := "tracksTeeth", fn := fun _ => fun
  | [d1, d2, d3] => { results := [.lit (.bool false)], args := [d1, d2, d3] }
  | _ => none }
def TracksTeethWrongFalsely : Prop := tracksTeethRow.holds Tryd.pinned (OpenSpec.ofChange tracksTeethWrong)

/-- 'cressetlaw08.TracksNames': WHATEVER THE INPUT: true; the input reads as it did. -/
def tracksNamesSpec : ChangeSpec := { name := "tracksNames", fn := fun _ => fun
  | [] => { results := [.lit (.bool true)], args := [] }
  | _ => none }
def tracksNamesRow : OpenClaim := { program := "ytnbdnnbeiohmgaadoor", sum := "b560bfb6d3551fe61712cf4ed93d51816915e5c8ff818151795df35f3fe64931", func := "cresset/cressetlaw08.TracksNames", spec := "tracksNames", unfollowed := true, recurses := true, named := ["cresset/tracks.sides", "cresset/tracks.corners", "cresset/tracks.star"], plainKeys := false, apart := false, laid := [("cresset/tracks.sides", laid_cresset_tracks_sides), ("cresset/tracks.star", laid_cresset_tracks_star), ("cresset/tracks.corners", laid_cresset_tracks_corners)] }
def TracksNamesSaid : Prop := tracksNamesRow.holds Tryd.pinned (OpenSpec.ofChange tracksNamesSpec)

/-- ITS FALSE NEIGHBOUR: 'it returns false'. Refute it at one input. -/
def tracksNamesWrong : ChangeSpec := { name := "tracksNames", fn := fun _ => fun
  | [] => { results := [.lit (.bool false)], args := [] }
  | _ => none }
def TracksNamesWrongFalsely : Prop := tracksNamesRow.holds Tryd.pinned (OpenSpec.ofChange tracksNamesWrong)

/- THE SECOND FORM. 'bulk': how many values and letters a reading holds, each counted each time it is reached (what is shared counts as often as it is met; a slice's spare places count too). A statement '..UptoSaid' is the law's where the arguments, and the package variables that the reading takes, are together of bulk at most 1048576: NARROWER than '..Said'. Prove '..Said' where nothing that the law and all that it calls make is longer than what came in: it says more and counts as full. Else prove '..UptoSaid'. A law counts once. -/
mutual
def uptoBulk {H : Type} : DataW H → Nat
  | .lit (.string bytes) => bytes.length + 1
  | .lit _ => 1
  | .nil => 1
  | .ptr d => uptoBulk d + 1
  | .slice elems spare => uptoBulkAll elems + uptoBulkAll spare + 1
  | .agg parts => uptoBulkAll parts + 1
  | .iface _ d => uptoBulk d + 1
  | .map entries => uptoBulkEntries entries + 1
  | .held _ => 1
def uptoBulkAll {H : Type} : List (DataW H) → Nat
  | [] => 0
  | d :: r => uptoBulk d + uptoBulkAll r
def uptoBulkEntries {H : Type} : List (Lit × DataW H) → Nat
  | [] => 0
  | x :: r => uptoBulkEntry x + uptoBulkEntries r
def uptoBulkEntry {H : Type} : Lit × DataW H → Nat
  | (.string bytes, d) => bytes.length + uptoBulk d + 1
  | (_, d) => uptoBulk d + 1
 end
def uptoSmall : (H : Type) → List (DataW H) → Bool := fun _ ds => decide (uptoBulkAll ds ≤ 1048576)
def OpenSpec.upto (s : _root_.Go.ChangeSpec) : _root_.Go.OpenSpec := { _root_.Go.OpenSpec.ofChange s with cond := some uptoSmall }

/-- 'cressetlaw08.TracksRings', WHERE WHAT IT READS IS OF BULK AT MOST 1048576: true; the input reads as it did. -/
def tracksRingsUptoRow : OpenClaim := { program := "ytnbdnnbeiohmgaadoor", sum := "b560bfb6d3551fe61712cf4ed93d51816915e5c8ff818151795df35f3fe64931", func := "cresset/cressetlaw08.TracksRings", spec := "tracksRings", unfollowed := true, recurses := true, named := ["cresset/tracks.sides", "cresset/tracks.star"], plainKeys := false, apart := false, laid := [("cresset/tracks.sides", laid_cresset_tracks_sides), ("cresset/tracks.star", laid_cresset_tracks_star)], narrowed := true }
def TracksRingsUptoSaid : Prop := tracksRingsUptoRow.holds Tryd.pinned (OpenSpec.upto tracksRingsSpec)

/-- 'cressetlaw08.TracksTeeth', WHERE WHAT IT READS IS OF BULK AT MOST 1048576: true; the input reads as it did. -/
def tracksTeethUptoRow : OpenClaim := { program := "ytnbdnnbeiohmgaadoor", sum := "b560bfb6d3551fe61712cf4ed93d51816915e5c8ff818151795df35f3fe64931", func := "cresset/cressetlaw08.TracksTeeth", spec := "tracksTeeth", unfollowed := true, recurses := true, named := ["cresset/tracks.sides", "cresset/tracks.corners"], plainKeys := false, apart := false, laid := [("cresset/tracks.sides", laid_cresset_tracks_sides), ("cresset/tracks.corners", laid_cresset_tracks_corners)], narrowed := true }
def TracksTeethUptoSaid : Prop := tracksTeethUptoRow.holds Tryd.pinned (OpenSpec.upto tracksTeethSpec)

/-- 'cressetlaw08.TracksNames', WHERE WHAT IT READS IS OF BULK AT MOST 1048576: true; the input reads as it did. -/
def tracksNamesUptoRow : OpenClaim := { program := "ytnbdnnbeiohmgaadoor", sum := "b560bfb6d3551fe61712cf4ed93d51816915e5c8ff818151795df35f3fe64931", func := "cresset/cressetlaw08.TracksNames", spec := "tracksNames", unfollowed := true, recurses := true, named := ["cresset/tracks.sides", "cresset/tracks.corners", "cresset/tracks.star"], plainKeys := false, apart := false, laid := [("cresset/tracks.sides", laid_cresset_tracks_sides), ("cresset/tracks.star", laid_cresset_tracks_star), ("cresset/tracks.corners", laid_cresset_tracks_corners)], narrowed := true }
def TracksNamesUptoSaid : Prop := tracksNamesUptoRow.holds Tryd.pinned (OpenSpec.upto tracksNamesSpec)

end Rows
end Go.Proofs.YtnbdnnbeiohmgaaDoor
