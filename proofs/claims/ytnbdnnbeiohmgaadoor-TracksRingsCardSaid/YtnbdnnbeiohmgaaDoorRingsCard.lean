/- TracksRings, every input: each place that differs from the spot by at most m spaces is within a space of the square track of 4 m + 1 legs, and square and sector tracks are valid: the law returns true, its arguments read afterwards as before. Condition: the package variables tracks.sides and tracks.star start as the program's text lays them; the card ties them. -/
import Derived.Test.YtnbdnnbeiohmgaaDoorRingsRow
import Derived.Test.YtnbdnnbeiohmgaaDoorTie
import Derived.Test.YtnbdnnbeiohmgaaDoorCards
import Derived.SevenTiedAt
namespace Go.Proofs.YtnbdnnbeiohmgaaDoor
open Go

theorem tracksRings_card_holds : Rows.TracksRingsCardSaid :=
  Claim7.holds_tied_plain_at .later [] [.data, .widerDeep] true (true, "7b35b5a25a6513396d439f9204ee04a9fbcb24951f69bfa5d6c0e956fbe9f359") false
    rings_holds (fun _ h => by cases h) (by kernel_rfl) (fun _ h => by cases h) tracksRings_row_tie rfl ⟨rfl, rfl⟩ (by kernel_rfl) rfl
    (fun f fn hf hfn => by
      obtain rfl : f = 3 := Option.some.inj ((show Tryd.prog.funcNamed "cresset/cressetlaw08.TracksRings" = some 3 by kernel_rfl).symm.trans hf) |>.symm
      obtain rfl : fn = Tryd.f3 := (Option.some.inj (Tryd.func3.symm.trans hfn)).symm
      exact ⟨by kernel_rfl, fun j t ht => by
        rw [Tryd.params3] at ht
        have hm : t ∈ Tryd.f3.params.toList := by rw [Tryd.params3]; exact Array.mem_toList_iff.2 (Array.mem_of_getElem? ht)
        rw [Tryd.params3] at hm
        clear ht
        revert t
        decide +kernel⟩)
    (by kernel_rfl)
#print axioms tracksRings_card_holds
end Go.Proofs.YtnbdnnbeiohmgaaDoor
