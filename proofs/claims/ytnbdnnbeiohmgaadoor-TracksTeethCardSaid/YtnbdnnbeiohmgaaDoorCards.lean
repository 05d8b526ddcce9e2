/-
  DERIVED. GIVEN WITH THE SEED: THE CARDS: each row of YtnbdnnbeiohmgaaDoorRows.lean that lists a variable, with what it lists TIED to the program's text (the seventh form; the later family's looks); each row that meets fmt, with fmt's text TOLD by the authors' own Lean function (tested against real Go, not proved from fmt's source: count such statements apart). THE CARD IS WHAT COUNTS. Prove the row's statement (the work); the ties are given (YtnbdnnbeiohmgaaDoorTie.lean); close each card by the builder's one call (the guide's Derived/Test/ToyasCard.lean, 'card_holds'). Laid BY PROGRAM, IN A SANDBOX (cutbox-door.mjs). By AI agents, Wed Nov 11 2026. No macro, syntax, notation, axiom, sorry.
-/
import Derived.Test.YtnbdnnbeiohmgaaDoorRows
import GoSem.ClaimSeven
namespace Go.Proofs.YtnbdnnbeiohmgaaDoor
namespace Rows

/-- THE TIED CARD OF 'cressetlaw08.TracksRings'. -/
def tracksRingsCard : Claim7 := { stood := { row := tracksRingsRow, standIns := [], harness := (true, "7b35b5a25a6513396d439f9204ee04a9fbcb24951f69bfa5d6c0e956fbe9f359"), looks := false }, kinds := [], alts := [], laidByText := true, laidKinds := [.data, .widerDeep], laidTests := true, laidLooks := .later }
def TracksRingsCardSaid : Prop := Claim7.holds Tryd.pinned (.plain (OpenSpec.ofChange tracksRingsSpec)) tracksRingsCard

/-- THE TIED CARD OF 'cressetlaw08.TracksTeeth'. -/
def tracksTeethCard : Claim7 := { stood := { row := tracksTeethRow, standIns := [], harness := (true, "7b35b5a25a6513396d439f9204ee04a9fbcb24951f69bfa5d6c0e956fbe9f359"), looks := false }, kinds := [], alts := [], laidByText := true, laidKinds := [.data, .data], laidTests := true, laidLooks := .later }
def TracksTeethCardSaid : Prop := Claim7.holds Tryd.pinned (.plain (OpenSpec.ofChange tracksTeethSpec)) tracksTeethCard

/-- THE TIED CARD OF 'cressetlaw08.TracksNames'. -/
def tracksNamesCard : Claim7 := { stood := { row := tracksNamesRow, standIns := [], harness := (true, "7b35b5a25a6513396d439f9204ee04a9fbcb24951f69bfa5d6c0e956fbe9f359"), looks := false }, kinds := [], alts := [], laidByText := true, laidKinds := [.data, .widerDeep, .data], laidTests := true, laidLooks := .later }
def TracksNamesCardSaid : Prop := Claim7.holds Tryd.pinned (.plain (OpenSpec.ofChange tracksNamesSpec)) tracksNamesCard

/-- THE SECOND FORM's CARD OF 'cressetlaw08.TracksRings'. -/
def tracksRingsUptoCard : Claim7 := { stood := { row := tracksRingsUptoRow, standIns := [], harness := (true, "7b35b5a25a6513396d439f9204ee04a9fbcb24951f69bfa5d6c0e956fbe9f359"), looks := false }, kinds := [], alts := [], laidByText := true, laidKinds := [.data, .widerDeep], laidTests := true, laidLooks := .later }
def TracksRingsUptoCardSaid : Prop := Claim7.holds Tryd.pinned (.plain (OpenSpec.upto tracksRingsSpec)) tracksRingsUptoCard

/-- THE SECOND FORM's CARD OF 'cressetlaw08.TracksTeeth'. -/
def tracksTeethUptoCard : Claim7 := { stood := { row := tracksTeethUptoRow, standIns := [], harness := (true, "7b35b5a25a6513396d439f9204ee04a9fbcb24951f69bfa5d6c0e956fbe9f359"), looks := false }, kinds := [], alts := [], laidByText := true, laidKinds := [.data, .data], laidTests := true, laidLooks := .later }
def TracksTeethUptoCardSaid : Prop := Claim7.holds Tryd.pinned (.plain (OpenSpec.upto tracksTeethSpec)) tracksTeethUptoCard

/-- THE SECOND FORM's CARD OF 'cressetlaw08.TracksNames'. -/
def tracksNamesUptoCard : Claim7 := { stood := { row := tracksNamesUptoRow, standIns := [], harness := (true, "7b35b5a25a6513396d439f9204ee04a9fbcb24951f69bfa5d6c0e956fbe9f359"), looks := false }, kinds := [], alts := [], laidByText := true, laidKinds := [.data, .widerDeep, .data], laidTests := true, laidLooks := .later }
def TracksNamesUptoCardSaid : Prop := Claim7.holds Tryd.pinned (.plain (OpenSpec.upto tracksNamesSpec)) tracksNamesUptoCard
end Rows
end Go.Proofs.YtnbdnnbeiohmgaaDoor
