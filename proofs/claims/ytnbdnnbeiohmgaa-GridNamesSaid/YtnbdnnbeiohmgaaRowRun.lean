/- An argument that is a list of runs, or a grid, opened. -/
import Derived.Test.YtnbdnnbeiohmgaaSeat
import Derived.Test.YtnbdnnbeiohmgaaGrA
import Derived.Deep.Slices
import Derived.Deep.Strs
namespace Go.Proofs.Ytnbdnnbeiohmgaa
open Go Go.ChangeShapes Go.WideShapes Go.ChangeAt Go.RowKit Go.Deep

section
variable {H : Type} {enc : TypeId × Value → H} {w : World} {sp : Nat → Bool} {held : Bool}

theorem one_int {base fuel : Nat} {u : TypeId} {k : IntKind} {cs : List Value} {x : DataW H × List MemPlace} (hu : Try.prog.underlying u = some (.int k)) (h : DataW.trod enc Try.prog w base sp held fuel u cs = some x) : ∃ n, cs = [.int k n] := by
  obtain ⟨z, c, -⟩ := DataW.trod_int hu h
  exact ⟨z, c⟩

theorem list3 {α : Type} {l : List α} (h : l.length = 3) : ∃ a b c, l = [a, b, c] := by
  match l, h with
  | [a, b, c], _ => exact ⟨a, b, c, rfl⟩
theorem list4 {α : Type} {l : List α} (h : l.length = 4) : ∃ a b c d, l = [a, b, c, d] := by
  match l, h with
  | [a, b, c, d], _ => exact ⟨a, b, c, d, rfl⟩
theorem lt_of_cell {w : World} {a : Addr} {v : Value} (h : w.cell? a = some v) : a.block < w.heap.size := by
  unfold World.cell? at h
  split at h
  · rename_i e
    exact (Array.getElem?_eq_some_iff.1 e).1
  · simp at h

theorem open_runs {fuel : Nat} {v : Value} {x : DataW H × List MemPlace} (h : DataW.trod enc Try.prog w 0 (fun _ => true) held fuel 22 [v] = some x) : ∃ l, Runs w v l := by
  rcases open_slice Try.underlying22 h with ⟨hcs, -⟩ | ⟨a, len, cap, m, n, D, Pl, hcs, -, hl, hm, hmm, -, hx⟩
  · simp only [List.cons.injEq, and_true] at hcs
    subst hcs
    exact ⟨[], Lst.nil _⟩
  · simp only [List.cons.injEq, and_true] at hcs
    subst hcs
    simp only [if_true] at hmm
    subst hmm
    have hc1 : Try.prog.cellsOf 3 = 1 := by kernel_rfl
    have hc3 : Try.prog.cellsOf 72 = 3 := by kernel_rfl
    have key : ∀ i, i < len → ∃ r : R3, ∀ j u, (encR r)[j]? = some u → w.cell? (a.add (i * 3 + j)) = some u := by
      intro i hi
      obtain ⟨cs', h1, h2⟩ := hx i (by omega)
      obtain ⟨y0, y1, y2, k, -, hlen, t0, t1, t2⟩ := trod_struct3 Try.underlying72 h2
      obtain ⟨c0, c1, c2, rfl⟩ := list3 (hlen.trans hc3)
      rw [hc3] at h1
      obtain ⟨z0, e0⟩ := one_int Try.underlying3 t0
      obtain ⟨z1, e1⟩ := one_int Try.underlying3 t1
      obtain ⟨z2, e2⟩ := one_int Try.underlying3 t2
      have q0 : c0 = .int .i64 z0 := by simpa [hc1] using e0
      have q1 : c1 = .int .i64 z1 := by simpa [hc1] using e1
      have q2 : c2 = .int .i64 z2 := by simpa [hc1] using e2
      obtain ⟨-, -, h3⟩ := World.cells?_some h1
      have p0 := h3 0 (by omega)
      have p1 := h3 1 (by omega)
      have p2 := h3 2 (by omega)
      rw [Deep.add_add] at p0 p1 p2
      subst q0 q1 q2
      refine ⟨(z0, z1, z2), fun j u hu => ?_⟩
      rcases j with - | - | - | j
      · exact p0.trans hu
      · exact p1.trans hu
      · exact p2.trans hu
      · simp [encR] at hu
    obtain ⟨f, hf⟩ := choose_lt (α := R3) (p := fun i r => ∀ j u, (encR r)[j]? = some u → w.cell? (a.add (i * 3 + j)) = some u) key
    refine ⟨(List.range len).map f, some a, _, by simp, by simpa using hl, hm, fun h0 => ?_⟩
    have h0' : 0 < len := by simpa using h0
    obtain ⟨b, off, spot⟩ := a
    have h1 := hf 0 h0' 0 _ rfl
    have hs : spot = none := by
      cases spot with
      | none => rfl
      | some s =>
        unfold World.cell? at h1
        simp [Addr.add] at h1
        split at h1 <;> simp at h1
    subst hs
    have hb : b < w.heap.size := by
      rw [add_plain] at h1
      exact lt_of_cell h1
    refine ⟨b, off, rfl, hb, fun j i r u hj hu => ?_⟩
    rw [List.getElem?_map] at hj
    obtain ⟨j', hj', rfl⟩ := Option.map_eq_some_iff.1 hj
    obtain ⟨hjl, rfl⟩ := List.getElem?_eq_some_iff.1 hj'
    have hj2 : j < len := by simpa using hjl
    have := hf j hj2 i u (by simpa using hu)
    rwa [add_plain, ← Nat.add_assoc] at this

set_option maxRecDepth 100000 in
theorem open_grid {v : Value} {d : DataW H} {q : List MemPlace} {r : Reach} {b : Nat} (h : DataW.Trod enc Try.prog w 0 (fun _ => true) held 24 v d q) (hok : Value.okWide Try.prog w r b 24 v) :
    ∃ W H S vL ld, v = .agg #[.int .i64 W, .int .i64 H, .int .i64 S, vL] ∧ Runs w vL ld := by
  obtain ⟨cs, rfl, hz, -⟩ := okWide_row (.inl ⟨_, Try.underlying24⟩) hok (ts := [3, 3, 3, 22]) (by kernel_rfl)
  obtain ⟨fuel, hf⟩ := h
  obtain ⟨xs, n, -, -, hl, hlen, hfs⟩ := DataW.trod_struct Try.underlying24 hf
  have hc1 : Try.prog.cellsOf 3 = 1 := by kernel_rfl
  have hc2 : Try.prog.cellsOf 22 = 1 := by kernel_rfl
  have hc4 : Try.prog.cellsOf 24 = 4 := by kernel_rfl
  obtain ⟨y0, y1, y2, y3, rfl⟩ := list4 (l := xs) (by rw [hlen]; rfl)
  obtain ⟨cs⟩ := cs
  obtain ⟨c0, c1, c2, c3, rfl⟩ := list4 (l := cs) (by rw [hc4] at hz; simpa using hz)
  obtain ⟨W, e0⟩ := one_int Try.underlying3 (show DataW.trod enc Try.prog w 0 (fun _ => true) held n 3 _ = some y0 from by simpa using hfs 0 _ rfl)
  obtain ⟨Hh, e1⟩ := one_int Try.underlying3 (show DataW.trod enc Try.prog w 0 (fun _ => true) held n 3 _ = some y1 from by simpa using hfs 1 _ rfl)
  obtain ⟨S, e2⟩ := one_int Try.underlying3 (show DataW.trod enc Try.prog w 0 (fun _ => true) held n 3 _ = some y2 from by simpa using hfs 2 _ rfl)
  have t3 := hfs 3 _ rfl
  simp [hc1, hc2, Value.cells] at e0 e1 e2 t3
  subst e0 e1 e2
  obtain ⟨ld, hr⟩ := open_runs t3
  exact ⟨W, Hh, S, c3, ld, rfl, hr⟩

set_option maxRecDepth 100000 in
theorem open_regs {v : Value} {d : DataW H} {q : List MemPlace} {r : Reach} {b : Nat} (h : DataW.Trod enc Try.prog w 0 (fun _ => true) held 22 v d q) (hok : Value.okWide Try.prog w r b 22 v) : ∃ l, Runs w v l := by
  obtain ⟨a, len, cap, rfl⟩ := okWide_slice Try.underlying22 hok
  obtain ⟨fuel, hf⟩ := h
  exact open_runs hf
end
end Go.Proofs.Ytnbdnnbeiohmgaa
