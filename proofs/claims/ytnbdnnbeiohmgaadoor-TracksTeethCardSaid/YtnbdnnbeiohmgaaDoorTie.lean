/-
  DERIVED. GIVEN WITH THE SEED: THE PROGRAM's TIES (one call each: nine closed facts by the kernel) AND EACH ROW's TIE, after the 31st guide's Derived/Test/Toyas{Tie, Card}.lean. No idea stands in it: it is a product of the set-up. Laid BY PROGRAM, IN A SANDBOX (cutbox-door.mjs). By AI agents, Wed Nov 11 2026. No macro, syntax, notation, axiom, sorry.
-/
import Derived.Test.YtnbdnnbeiohmgaaDoorRows
import Derived.LaidByTextLater
import Derived.SevenTiedAt
import Derived.LaidSub
import Derived.LaidOnce
namespace Go.Proofs.YtnbdnnbeiohmgaaDoor
open Go
set_option maxRecDepth 100000
theorem seatTie1 : Tryd.prog.laidByTextLater [("cresset/tracks.sides", Rows.laid_cresset_tracks_sides), ("cresset/tracks.star", Rows.laid_cresset_tracks_star), ("cresset/tracks.corners", Rows.laid_cresset_tracks_corners)] [.data, .widerDeep, .data] true :=
  Program.laidByTextLater_by_one 45 8 27 (by kernel_rfl) (by kernel_rfl) (by kernel_rfl) (by kernel_rfl) (by kernel_rfl) (by kernel_rfl) (fun _ _ => by kernel_rfl)
theorem noOwnUnsafe : Tryd.pinned.checked.prog.headLifts.contains "ownunsafe" = false := by kernel_rfl
theorem tie : Tryd.prog.laidByTextLater [("cresset/tracks.sides", Rows.laid_cresset_tracks_sides), ("cresset/tracks.star", Rows.laid_cresset_tracks_star)] [.data, .widerDeep] true :=
  Program.laidByTextLater.sub seatTie1 ["cresset/tracks.sides", "cresset/tracks.star"] (by kernel_rfl) (by kernel_rfl)
theorem tracksRings_row_tie : Rows.tracksRingsRow.laidByTextAt .later Tryd.pinned [.data, .widerDeep] true :=
  OpenClaim.laidByTextAt_later rfl rfl tie noOwnUnsafe
theorem tie2 : Tryd.prog.laidByTextLater [("cresset/tracks.sides", Rows.laid_cresset_tracks_sides), ("cresset/tracks.corners", Rows.laid_cresset_tracks_corners)] [.data, .data] true :=
  Program.laidByTextLater.sub seatTie1 ["cresset/tracks.sides", "cresset/tracks.corners"] (by kernel_rfl) (by kernel_rfl)
theorem tracksTeeth_row_tie : Rows.tracksTeethRow.laidByTextAt .later Tryd.pinned [.data, .data] true :=
  OpenClaim.laidByTextAt_later rfl rfl tie2 noOwnUnsafe
theorem tie3 : Tryd.prog.laidByTextLater [("cresset/tracks.sides", Rows.laid_cresset_tracks_sides), ("cresset/tracks.star", Rows.laid_cresset_tracks_star), ("cresset/tracks.corners", Rows.laid_cresset_tracks_corners)] [.data, .widerDeep, .data] true :=
  Program.laidByTextLater.sub seatTie1 ["cresset/tracks.sides", "cresset/tracks.star", "cresset/tracks.corners"] (by kernel_rfl) (by kernel_rfl)
theorem tracksNames_row_tie : Rows.tracksNamesRow.laidByTextAt .later Tryd.pinned [.data, .widerDeep, .data] true :=
  OpenClaim.laidByTextAt_later rfl rfl tie3 noOwnUnsafe
theorem tracksRingsUpto_row_tie : Rows.tracksRingsUptoRow.laidByTextAt .later Tryd.pinned [.data, .widerDeep] true :=
  OpenClaim.laidByTextAt_later rfl rfl tie noOwnUnsafe
theorem tracksTeethUpto_row_tie : Rows.tracksTeethUptoRow.laidByTextAt .later Tryd.pinned [.data, .data] true :=
  OpenClaim.laidByTextAt_later rfl rfl tie2 noOwnUnsafe
theorem tracksNamesUpto_row_tie : Rows.tracksNamesUptoRow.laidByTextAt .later Tryd.pinned [.data, .widerDeep, .data] true :=
  OpenClaim.laidByTextAt_later rfl rfl tie3 noOwnUnsafe
end Go.Proofs.YtnbdnnbeiohmgaaDoor
