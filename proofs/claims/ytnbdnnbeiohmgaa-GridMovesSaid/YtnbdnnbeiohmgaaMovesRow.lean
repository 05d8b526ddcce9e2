/- GridMoves: the row, for every input. -/
import Derived.Test.YtnbdnnbeiohmgaaRowRun
import Derived.Test.YtnbdnnbeiohmgaaGrMoves
namespace Go.Proofs.Ytnbdnnbeiohmgaa
open Go Go.ChangeShapes Go.WideShapes Go.ChangeAt Go.RowKit

theorem u32_in {n : Int} (h : (Lit.int .u32 n).wf = true) : 0 ≤ n ∧ n ≤ 4294967295 := by
  obtain ⟨m, rfl, hm⟩ := wf_u32 h
  omega
theorem okWide_ints4 {P : Program} {w : World} {r : Reach} {b : Nat} {t u : TypeId} {k : IntKind} {v : Value} (hs : (∃ fs, P.underlying t = some (.struct fs)) ∨ ∃ n e, P.underlying t = some (.array n e)) (hC : P.cellsOf t = 4) (hts : P.cellTypes P.depth t = some [u, u, u, u]) (hu : P.underlying u = some (.int k))
    (h : Value.okWide P w r b t v) : ∃ x y z q, v = .agg #[.int k x, .int k y, .int k z, .int k q] := by
  obtain ⟨cs, rfl, hz, hf⟩ := okWide_row hs h hts
  obtain ⟨cs⟩ := cs
  obtain ⟨c0, c1, c2, c3, rfl⟩ := list4 (l := cs) (by rw [hC] at hz; simpa using hz)
  obtain ⟨u0, e0, h0⟩ := hf 0 c0 rfl
  obtain ⟨u1, e1, h1⟩ := hf 1 c1 rfl
  obtain ⟨u2, e2, h2⟩ := hf 2 c2 rfl
  obtain ⟨u3, e3, h3⟩ := hf 3 c3 rfl
  obtain rfl : u = u0 := by simpa using e0
  obtain rfl : u = u1 := by simpa using e1
  obtain rfl : u = u2 := by simpa using e2
  obtain rfl : u = u3 := by simpa using e3
  obtain ⟨x, rfl, -⟩ := okWide_int_cell hu h0
  obtain ⟨y, rfl, -⟩ := okWide_int_cell hu h1
  obtain ⟨z, rfl, -⟩ := okWide_int_cell hu h2
  obtain ⟨q, rfl, -⟩ := okWide_int_cell hu h3
  exact ⟨x, y, z, q, rfl⟩

set_option maxRecDepth 100000 in
set_option maxHeartbeats 1000000 in
theorem moves_lifted (os : Os) (started : os.Started) (H : Type) (enc : TypeId × Value → H) :
    ReturnsInHanded {} Try.checked os 3 .any (Rows.gridMovesSpec.pre6 enc Try.prog Try.f3 Rows.gridMovesRow.domain false)
      (Rows.gridMovesSpec.post enc Try.prog Try.f3 false true false false) := by
  refine returnsInHanded_of_change (C := Try.checked) ownK started (by kernel_rfl) Try.func3
    (ChangeSpec.witness6 (enc := enc) (C := Try.checked) false ⟨#[], #[.agg #[.int .i64 0, .int .i64 0, .int .i64 0, .slice none 0 0], .slice none 0 0, .agg #[.int .i64 0, .int .i64 0, .int .i64 0, .int .i64 0], .int .u32 0, .agg #[.int .u32 0, .int .u32 0], .agg #[.int .u32 0, .int .u32 0]], []⟩ 8 (by kernel_rfl) (by kernel_rfl) (by kernel_rfl) (by kernel_rfl)) ?_
  intro W base args ds gs before hval0 hW _ _
  have hval : ∀ (j : Nat) t v, Try.f3.params[j]? = some t → args[j]? = some v → Value.okWide Try.prog W .any base t v := hval0
  have hW' := hW
  obtain ⟨p, q, hA0, hV, rfl, hfz, hnd⟩ := hW
  have hA : DataW.TrodAll enc Try.prog W 0 (fun _ => true) true Try.f3.params.toList args.toList ds p := hA0
  rw [Try.params3] at hA hval
  obtain ⟨v0, vs, d0, ds0, p0, q0, ea, rfl, rfl, h0, hA⟩ := trodAll_cons hA
  obtain ⟨v1, vs, d1, ds1, p1, q1, rfl, rfl, rfl, h1, hA⟩ := trodAll_cons hA
  obtain ⟨v2, vs, d2, ds2, p2, q2, rfl, rfl, rfl, -, hA⟩ := trodAll_cons hA
  obtain ⟨v3, vs, d3, ds3, p3, q3, rfl, rfl, rfl, -, hA⟩ := trodAll_cons hA
  obtain ⟨v4, vs, d4, ds4, p4, q4, rfl, rfl, rfl, -, hA⟩ := trodAll_cons hA
  obtain ⟨v5, vs, d5, ds5, p5, q5, rfl, rfl, rfl, -, hA⟩ := trodAll_cons hA
  obtain ⟨rfl, rfl, rfl⟩ := trodAll_nil hA
  obtain rfl : args = #[v0, v1, v2, v3, v4, v5] := by cases args; simp_all
  obtain ⟨gW, gH, gS, vL, ld, rfl, hL⟩ := open_grid h0 (hval 0 _ v0 rfl rfl)
  obtain ⟨l, hl⟩ := open_regs h1 (hval 1 _ v1 rfl rfl)
  obtain ⟨a, b, c, d, rfl⟩ := okWide_ints4 (.inl ⟨_, Try.underlying28⟩) (by kernel_rfl) (by kernel_rfl) Try.underlying3 (hval 2 _ v2 rfl rfl)
  obtain ⟨t, rfl, wt⟩ := okWide_intw Try.underlying29 (hval 3 _ v3 rfl rfl)
  obtain ⟨x1, x2, rfl, w1, w2⟩ := okWide_ints2 (.inr ⟨_, _, Try.underlying30⟩) (by kernel_rfl) (by kernel_rfl) Try.underlying29 (hval 4 _ v4 rfl rfl)
  obtain ⟨y1, y2, rfl, w3, w4⟩ := okWide_ints2 (.inr ⟨_, _, Try.underlying30⟩) (by kernel_rfl) (by kernel_rfl) Try.underlying29 (hval 5 _ v5 rfl rfl)
  refine (moves_gr gW gH gS a b c d t x1 x2 y1 y2 vL v1 ld l W hL hl (u32_in wt) (u32_in w1) (u32_in w2) (u32_in w3) (u32_in w4)).mono ?_
  rintro e W' ⟨rfl, hbel⟩
  exact ⟨_, rfl, law_post laidOut hW' rfl (by intro t ht; rw [Try.params3] at ht; revert t; decide +kernel) rfl rfl rfl (by kernel_rfl) Try.underlying4 hbel⟩

theorem moves_holds : Rows.GridMovesSaid :=
  OpenClaim.holds_of_wide 3 Try.f3 rfl rfl rfl rfl rfl rfl rfl ⟨rfl, rfl, rfl, rfl, rfl⟩ rfl rfl rfl rfl rfl (by kernel_rfl) Try.func3 (by kernel_rfl)
    (of_decide_eq_true (by kernel_rfl)) (by unfold Func.isWrapper; first | (rw [if_pos (by decide +kernel)]; kernel_rfl) | (rw [if_neg (by decide +kernel)]; exact ⟨rfl, rfl⟩))
    (fun os started H enc _ => moves_lifted os started H enc)
#print axioms moves_holds
end Go.Proofs.Ytnbdnnbeiohmgaa
