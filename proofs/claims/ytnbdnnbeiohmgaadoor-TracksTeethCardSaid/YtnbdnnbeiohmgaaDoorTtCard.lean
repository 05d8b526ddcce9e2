/- TracksTeeth, every input: the outline of a comb is the document's, or both say that it is too long: the law returns true, its arguments read afterwards as before. Condition: the package variables tracks.sides and tracks.corners start as the program's text lays them; the card ties them. -/
import Derived.Test.YtnbdnnbeiohmgaaDoorTtRow
import Derived.Test.YtnbdnnbeiohmgaaDoorTie
import Derived.Test.YtnbdnnbeiohmgaaDoorCards
import Derived.SevenTiedAt
namespace Go.Proofs.YtnbdnnbeiohmgaaDoor
open Go

theorem tracksTeeth_card_holds : Rows.TracksTeethCardSaid :=
  Claim7.holds_tied_plain_at .later [] [.data, .data] true (true, "7b35b5a25a6513396d439f9204ee04a9fbcb24951f69bfa5d6c0e956fbe9f359") false
    teeth_holds (fun _ h => by cases h) (by kernel_rfl) (fun _ h => by cases h) tracksTeeth_row_tie rfl ⟨rfl, rfl⟩ (by kernel_rfl) rfl
    (fun f fn hf hfn => by
      obtain rfl : f = 4 := Option.some.inj ((show Tryd.prog.funcNamed "cresset/cressetlaw08.TracksTeeth" = some 4 by kernel_rfl).symm.trans hf) |>.symm
      obtain rfl : fn = Tryd.f4 := (Option.some.inj (Tryd.func4.symm.trans hfn)).symm
      exact ⟨by kernel_rfl, fun j t ht => by
        rw [Tryd.params4] at ht
        have hm : t ∈ Tryd.f4.params.toList := by rw [Tryd.params4]; exact Array.mem_toList_iff.2 (Array.mem_of_getElem? ht)
        rw [Tryd.params4] at hm
        clear ht
        revert t
        decide +kernel⟩)
    (by kernel_rfl)
#print axioms tracksTeeth_card_holds
end Go.Proofs.YtnbdnnbeiohmgaaDoor
