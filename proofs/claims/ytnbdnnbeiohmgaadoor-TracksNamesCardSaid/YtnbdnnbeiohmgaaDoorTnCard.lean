/- TracksNames (closed): errors and limits have their numbers, and the chapter's examples come out as stated: the law returns true. Condition: the package variables tracks.sides, tracks.star and tracks.corners start as the program's text lays them; the card ties them. -/
import Derived.Test.YtnbdnnbeiohmgaaDoorTnRow
import Derived.Test.YtnbdnnbeiohmgaaDoorTie
import Derived.Test.YtnbdnnbeiohmgaaDoorCards
import Derived.SevenTiedAt
namespace Go.Proofs.YtnbdnnbeiohmgaaDoor
open Go

theorem tracksNames_card_holds : Rows.TracksNamesCardSaid :=
  Claim7.holds_tied_plain_at .later [] [.data, .widerDeep, .data] true (true, "7b35b5a25a6513396d439f9204ee04a9fbcb24951f69bfa5d6c0e956fbe9f359") false
    names_holds (fun _ h => by cases h) (by kernel_rfl) (fun _ h => by cases h) tracksNames_row_tie rfl ⟨rfl, rfl⟩ (by kernel_rfl) rfl
    (fun f fn hf hfn => by
      obtain rfl : f = 5 := Option.some.inj ((show Tryd.prog.funcNamed "cresset/cressetlaw08.TracksNames" = some 5 by kernel_rfl).symm.trans hf) |>.symm
      obtain rfl : fn = Tryd.f5 := (Option.some.inj (Tryd.func5.symm.trans hfn)).symm
      exact ⟨by kernel_rfl, fun j t ht => by
        rw [Tryd.params5] at ht
        have hm : t ∈ Tryd.f5.params.toList := by rw [Tryd.params5]; exact Array.mem_toList_iff.2 (Array.mem_of_getElem? ht)
        rw [Tryd.params5] at hm
        clear ht
        revert t
        decide +kernel⟩)
    (by kernel_rfl)
#print axioms tracksNames_card_holds
end Go.Proofs.YtnbdnnbeiohmgaaDoor
