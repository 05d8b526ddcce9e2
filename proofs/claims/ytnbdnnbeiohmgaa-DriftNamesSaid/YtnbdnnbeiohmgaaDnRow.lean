/- DriftNames, the statement of package cressetlaw04 on errors, limits, sides and the examples of its chapter, answers true in the given program. Conditions: those of the given statement DriftNamesSaid, and no others. -/
import Derived.Test.YtnbdnnbeiohmgaaRowRun
import Derived.Test.YtnbdnnbeiohmgaaDnLaw
namespace Go.Proofs.Ytnbdnnbeiohmgaa
open Go Go.ChangeShapes Go.WideShapes Go.ChangeAt Go.RowKit

set_option maxRecDepth 100000 in
set_option maxHeartbeats 1000000 in
theorem dnames_lifted (os : Os) (started : os.Started) (H : Type) (enc : TypeId × Value → H) :
    ReturnsInHanded {} Try.checked os 8 .any (Rows.driftNamesSpec.pre6 enc Try.prog Try.f8 Rows.driftNamesRow.domain false)
      (Rows.driftNamesSpec.post enc Try.prog Try.f8 false true false false) := by
  refine returnsInHanded_of_change (C := Try.checked) ownK started (by kernel_rfl) Try.func8
    (ChangeSpec.witness6 (enc := enc) (C := Try.checked) false ⟨#[], #[], []⟩ 8 (by kernel_rfl) (by kernel_rfl) (by kernel_rfl) (by kernel_rfl)) ?_
  intro W base args ds gs before hval0 hW _ _
  have hW' := hW
  obtain ⟨p, q, hA0, hV, rfl, hfz, hnd⟩ := hW
  have hA : DataW.TrodAll enc Try.prog W 0 (fun _ => true) true Try.f8.params.toList args.toList ds p := hA0
  rw [Try.params8] at hA
  obtain ⟨ea, rfl, rfl⟩ := trodAll_nil hA
  obtain rfl : args = #[] := by cases args; simp_all
  refine (names_dn W).mono ?_
  rintro e W' ⟨rfl, hbel⟩
  exact ⟨_, rfl, law_post laidOut hW' rfl (by intro t ht; rw [Try.params8] at ht; revert t; decide +kernel) rfl rfl rfl (by kernel_rfl) Try.underlying4 hbel⟩

theorem dnames_holds : Rows.DriftNamesSaid :=
  OpenClaim.holds_of_wide 8 Try.f8 rfl rfl rfl rfl rfl rfl rfl ⟨rfl, rfl, rfl, rfl, rfl⟩ rfl rfl rfl rfl rfl (by kernel_rfl) Try.func8 (by kernel_rfl)
    (of_decide_eq_true (by kernel_rfl)) (by unfold Func.isWrapper; first | (rw [if_pos (by decide +kernel)]; kernel_rfl) | (rw [if_neg (by decide +kernel)]; exact ⟨rfl, rfl⟩))
    (fun os started H enc _ => dnames_lifted os started H enc)
#print axioms dnames_holds
end Go.Proofs.Ytnbdnnbeiohmgaa
