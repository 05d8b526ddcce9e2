/- TracksReach: the row, for every input. -/
import Derived.Test.YtnbdnnbeiohmgaaRowRun
import Derived.Test.YtnbdnnbeiohmgaaTrLaw
namespace Go.Proofs.Ytnbdnnbeiohmgaa
open Go Go.ChangeShapes Go.WideShapes Go.ChangeAt Go.RowKit Go.Deep

theorem u32_in {n : Int} (h : (Lit.int .u32 n).wf = true) : 0 ≤ n ∧ n ≤ 4294967295 := by
  obtain ⟨m, rfl, hm⟩ := wf_u32 h
  omega

theorem list2 {α : Type} {l : List α} (h : l.length = 2) : ∃ a b, l = [a, b] := by
  match l, h with
  | [a, b], _ => exact ⟨a, b, rfl⟩
section
variable {H : Type} {enc : TypeId × Value → H} {w : World} {held : Bool}
theorem int_in {base fuel : Nat} {u : TypeId} {cs : List Value} {x : DataW H × List MemPlace} {sp : Nat → Bool} (hu : Try.prog.underlying u = some (.int .i64)) (h : DataW.trod enc Try.prog w base sp held fuel u cs = some x) : ∃ n, cs = [.int .i64 n] ∧ i64 n := by
  obtain ⟨z, c, -, hw⟩ := DataW.trod_int hu h
  exact ⟨z, c, wf_inv hw⟩
theorem open_spots {fuel : Nat} {v : Value} {x : DataW H × List MemPlace} (h : DataW.trod enc Try.prog w 0 (fun _ => true) held fuel 59 [v] = some x) : ∃ l, Spots w v l ∧ ∀ s, s ∈ l → i64 s.1 ∧ i64 s.2 := by
  rcases open_slice Try.underlying59 h with ⟨hcs, -⟩ | ⟨a, len, cap, m, n, D, Pl, hcs, -, hl, hm, hmm, -, hx⟩
  · simp only [List.cons.injEq, and_true] at hcs
    subst hcs
    exact ⟨[], ⟨none, 0, rfl, by simp, by simp [maxLen], fun h => by simp at h⟩, fun s hs => by simp at hs⟩
  · simp only [List.cons.injEq, and_true] at hcs
    subst hcs
    simp only [if_true] at hmm
    subst hmm
    have hc1 : Try.prog.cellsOf 3 = 1 := by kernel_rfl
    have hc2 : Try.prog.cellsOf 26 = 2 := by kernel_rfl
    have key : ∀ i, i < len → ∃ r : Int × Int, (i64 r.1 ∧ i64 r.2) ∧ w.cell? (a.add (i * 2)) = some (.int .i64 r.1) ∧ w.cell? (a.add (i * 2 + 1)) = some (.int .i64 r.2) := by
      intro i hi
      obtain ⟨cs', h1, h2⟩ := hx i (by omega)
      obtain ⟨y0, y1, k, -, hlen, t0, t1⟩ := trod_struct2 Try.underlying26 h2
      obtain ⟨c0, c1, rfl⟩ := list2 (hlen.trans hc2)
      rw [hc2] at h1
      obtain ⟨z0, e0, i0⟩ := int_in Try.underlying3 t0
      obtain ⟨z1, e1, i1⟩ := int_in Try.underlying3 t1
      have q0 : c0 = .int .i64 z0 := by simpa [hc1] using e0
      have q1 : c1 = .int .i64 z1 := by simpa [hc1] using e1
      obtain ⟨-, -, h3⟩ := World.cells?_some h1
      have p0 := h3 0 (by omega)
      have p1 := h3 1 (by omega)
      rw [Deep.add_add] at p0 p1
      subst q0 q1
      exact ⟨(z0, z1), ⟨i0, i1⟩, p0.trans rfl, p1.trans rfl⟩
    obtain ⟨f, hf⟩ := choose_lt (α := Int × Int) (p := fun i r => (i64 r.1 ∧ i64 r.2) ∧ w.cell? (a.add (i * 2)) = some (.int .i64 r.1) ∧ w.cell? (a.add (i * 2 + 1)) = some (.int .i64 r.2)) key
    refine ⟨(List.range len).map f, ⟨some a, _, by simp, by simpa using hl, hm, fun h0 => ?_⟩, fun s hs => ?_⟩
    · have h0' : 0 < len := by simpa using h0
      obtain ⟨b, off, spot⟩ := a
      have h1 := (hf 0 h0').2.1
      have hs : spot = none := by
        cases spot with
        | none => rfl
        | some s =>
          unfold World.cell? at h1
          simp [Addr.add] at h1
          split at h1 <;> simp at h1
      subst hs
      have hb : b < w.heap.size := by
        rw [add_plain] at h1
        exact lt_of_cell h1
      refine ⟨b, off, rfl, hb, fun j r hj => ?_⟩
      rw [List.getElem?_map] at hj
      obtain ⟨j', hj', rfl⟩ := Option.map_eq_some_iff.1 hj
      obtain ⟨hjl, rfl⟩ := List.getElem?_eq_some_iff.1 hj'
      have hj2 : j < len := by simpa using hjl
      have h2 := (hf j hj2).2
      rw [add_plain, add_plain] at h2
      simpa [Nat.add_assoc] using h2
    · obtain ⟨j, hj, rfl⟩ := List.mem_map.1 hs
      exact (hf j (List.mem_range.1 hj)).1
end

set_option maxRecDepth 100000 in
set_option maxHeartbeats 1000000 in
theorem reach8_lifted (os : Os) (started : os.Started) (H : Type) (enc : TypeId × Value → H) :
    ReturnsInHanded {} Try.checked os 6 .any (Rows.tracksReachSpec.pre6 enc Try.prog Try.f6 Rows.tracksReachRow.domain false)
      (Rows.tracksReachSpec.post enc Try.prog Try.f6 false true false false) := by
  refine returnsInHanded_of_change (C := Try.checked) ownK started (by kernel_rfl) Try.func6
    (ChangeSpec.witness6 (enc := enc) (C := Try.checked) false ⟨#[], #[.agg #[.int .i64 0, .int .i64 0, .int .i64 0, .slice none 0 0], .slice none 0 0, .int .i64 0, .int .i64 0, .agg #[.int .i64 0, .int .i64 0], .agg #[.int .u32 0, .int .u32 0]], []⟩ 8 (by kernel_rfl) (by kernel_rfl) (by kernel_rfl) (by kernel_rfl)) ?_
  intro W base args ds gs before hval0 hW _ _
  have hval : ∀ (j : Nat) t v, Try.f6.params[j]? = some t → args[j]? = some v → Value.okWide Try.prog W .any base t v := hval0
  have hW' := hW
  obtain ⟨p, q, hA0, hV, rfl, hfz, hnd⟩ := hW
  have hA : DataW.TrodAll enc Try.prog W 0 (fun _ => true) true Try.f6.params.toList args.toList ds p := hA0
  rw [Try.params6] at hA hval
  obtain ⟨v0, vs, d0, ds0, p0, q0, ea, rfl, rfl, h0, hA⟩ := trodAll_cons hA
  obtain ⟨v1, vs, d1, ds1, p1, q1, rfl, rfl, rfl, h1, hA⟩ := trodAll_cons hA
  obtain ⟨v2, vs, d2, ds2, p2, q2, rfl, rfl, rfl, -, hA⟩ := trodAll_cons hA
  obtain ⟨v3, vs, d3, ds3, p3, q3, rfl, rfl, rfl, -, hA⟩ := trodAll_cons hA
  obtain ⟨v4, vs, d4, ds4, p4, q4, rfl, rfl, rfl, -, hA⟩ := trodAll_cons hA
  obtain ⟨v5, vs, d5, ds5, p5, q5, rfl, rfl, rfl, -, hA⟩ := trodAll_cons hA
  obtain ⟨rfl, rfl, rfl⟩ := trodAll_nil hA
  obtain rfl : args = #[v0, v1, v2, v3, v4, v5] := by cases args; simp_all
  obtain ⟨gW, gH, gS, vL, ld, rfl, hL⟩ := open_grid h0 (hval 0 _ v0 rfl rfl)
  obtain ⟨al, nl, cl, rfl⟩ := okWide_slice Try.underlying59 (hval 1 _ v1 rfl rfl)
  obtain ⟨fuel, hf1⟩ := h1
  obtain ⟨l, hl, hi⟩ := open_spots hf1
  obtain ⟨wd, rfl, -⟩ := okWide_intw Try.underlying3 (hval 2 _ v2 rfl rfl)
  obtain ⟨more, rfl, -⟩ := okWide_intw Try.underlying3 (hval 3 _ v3 rfl rfl)
  obtain ⟨cx, cy, rfl, -, -⟩ := okWide_ints2 (.inl ⟨_, Try.underlying39⟩) (by kernel_rfl) (by kernel_rfl) Try.underlying3 (hval 4 _ v4 rfl rfl)
  obtain ⟨x1, x2, rfl, w1, w2⟩ := okWide_ints2 (.inr ⟨_, _, Try.underlying30⟩) (by kernel_rfl) (by kernel_rfl) Try.underlying29 (hval 5 _ v5 rfl rfl)
  refine (reach_tk gW gH gS wd more cx cy x1 x2 vL _ ld l W hL hl hi (u32_in w1) (u32_in w2)).mono ?_
  rintro e W' ⟨rfl, hbel⟩
  exact ⟨_, rfl, law_post laidOut hW' rfl (by intro t ht; rw [Try.params6] at ht; revert t; decide +kernel) rfl rfl rfl (by kernel_rfl) Try.underlying4 hbel⟩

theorem reach8_holds : Rows.TracksReachSaid :=
  OpenClaim.holds_of_wide 6 Try.f6 rfl rfl rfl rfl rfl rfl rfl ⟨rfl, rfl, rfl, rfl, rfl⟩ rfl rfl rfl rfl rfl (by kernel_rfl) Try.func6 (by kernel_rfl)
    (of_decide_eq_true (by kernel_rfl)) (by unfold Func.isWrapper; first | (rw [if_pos (by decide +kernel)]; kernel_rfl) | (rw [if_neg (by decide +kernel)]; exact ⟨rfl, rfl⟩))
    (fun os started H enc _ => reach8_lifted os started H enc)
#print axioms reach8_holds
end Go.Proofs.Ytnbdnnbeiohmgaa
