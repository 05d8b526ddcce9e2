/- GridLong: the row, for every input. -/
import Derived.Test.YtnbdnnbeiohmgaaRowRun
import Derived.Test.YtnbdnnbeiohmgaaLgLong
namespace Go.Proofs.Ytnbdnnbeiohmgaa
open Go Go.ChangeShapes Go.WideShapes Go.ChangeAt Go.RowKit

theorem u8_in {n : Int} (h : (Lit.int .u8 n).wf = true) : 0 ≤ n ∧ n ≤ 255 := by
  obtain ⟨m, rfl, hm⟩ := wf_u8 h
  omega

set_option maxRecDepth 100000 in
set_option maxHeartbeats 1000000 in
theorem long_lifted (os : Os) (started : os.Started) (H : Type) (enc : TypeId × Value → H) :
    ReturnsInHanded {} Try.checked os 4 .any (Rows.gridLongSpec.pre6 enc Try.prog Try.f4 Rows.gridLongRow.domain false)
      (Rows.gridLongSpec.post enc Try.prog Try.f4 false true false false) := by
  refine returnsInHanded_of_change (C := Try.checked) ownK started (by kernel_rfl) Try.func4
    (ChangeSpec.witness6 (enc := enc) (C := Try.checked) false ⟨#[], #[.int .u8 0, .agg #[.int .u8 0, .int .u8 0], .agg #[.int .u8 0, .int .u8 0]], []⟩ 8 (by kernel_rfl) (by kernel_rfl) (by kernel_rfl) (by kernel_rfl)) ?_
  intro W base args ds gs before hval0 hW _ _
  have hval : ∀ (j : Nat) t v, Try.f4.params[j]? = some t → args[j]? = some v → Value.okWide Try.prog W .any base t v := hval0
  have hW' := hW
  obtain ⟨p, q, hA0, hV, rfl, hfz, hnd⟩ := hW
  have hA : DataW.TrodAll enc Try.prog W 0 (fun _ => true) true Try.f4.params.toList args.toList ds p := hA0
  rw [Try.params4] at hA hval
  obtain ⟨v0, vs, d0, ds0, p0, q0, ea, rfl, rfl, -, hA⟩ := trodAll_cons hA
  obtain ⟨v1, vs, d1, ds1, p1, q1, rfl, rfl, rfl, -, hA⟩ := trodAll_cons hA
  obtain ⟨v2, vs, d2, ds2, p2, q2, rfl, rfl, rfl, -, hA⟩ := trodAll_cons hA
  obtain ⟨rfl, rfl, rfl⟩ := trodAll_nil hA
  obtain rfl : args = #[v0, v1, v2] := by cases args; simp_all
  obtain ⟨h, rfl, wh⟩ := okWide_intw Try.underlying5 (hval 0 _ v0 rfl rfl)
  obtain ⟨p, q, rfl, w1, w2⟩ := okWide_ints2 (.inr ⟨_, _, Try.underlying49⟩) (by kernel_rfl) (by kernel_rfl) Try.underlying5 (hval 1 _ v1 rfl rfl)
  obtain ⟨r, s, rfl, w3, w4⟩ := okWide_ints2 (.inr ⟨_, _, Try.underlying49⟩) (by kernel_rfl) (by kernel_rfl) Try.underlying5 (hval 2 _ v2 rfl rfl)
  refine (long_gr h p q r s W (u8_in wh) (u8_in w1) (u8_in w2) (u8_in w3) (u8_in w4)).mono ?_
  rintro e W' ⟨rfl, hbel⟩
  exact ⟨_, rfl, law_post laidOut hW' rfl (by intro t ht; rw [Try.params4] at ht; revert t; decide +kernel) rfl rfl rfl (by kernel_rfl) Try.underlying4 hbel⟩

theorem long_holds : Rows.GridLongSaid :=
  OpenClaim.holds_of_wide 4 Try.f4 rfl rfl rfl rfl rfl rfl rfl ⟨rfl, rfl, rfl, rfl, rfl⟩ rfl rfl rfl rfl rfl (by kernel_rfl) Try.func4 (by kernel_rfl)
    (of_decide_eq_true (by kernel_rfl)) (by unfold Func.isWrapper; first | (rw [if_pos (by decide +kernel)]; kernel_rfl) | (rw [if_neg (by decide +kernel)]; exact ⟨rfl, rfl⟩))
    (fun os started H enc _ => long_lifted os started H enc)
#print axioms long_holds
end Go.Proofs.Ytnbdnnbeiohmgaa
