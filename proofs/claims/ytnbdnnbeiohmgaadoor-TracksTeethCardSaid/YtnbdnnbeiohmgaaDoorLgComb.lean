/- GridLong: combs are valid regions. -/
import Derived.Test.YtnbdnnbeiohmgaaDoorGrOthers
import Derived.Test.YtnbdnnbeiohmgaaDoorGrGrow
import Derived.Test.YtnbdnnbeiohmgaaDoorGrPick
namespace Go.Proofs.YtnbdnnbeiohmgaaDoor
open Go.RowKit Go.Shelf

/-- the last run, or the one ahead of all -/
def lastOr (p : R3) (l : List R3) : R3 := l.getLast?.getD p
theorem lastOr_snoc (p : R3) (l : List R3) (x : R3) : lastOr p (l ++ [x]) = x := by simp [lastOr]
theorem rightL_snoc (W H : Int) (x : R3) : ∀ (l : List R3) (p : R3), rightL W H p (l ++ [x]) = (rightL W H p l && okR W H (lastOr p l) x)
  | [], p => by simp [rightL, lastOr]
  | y :: l, p => by
    have h := rightL_snoc W H x l y
    have e : lastOr p (y :: l) = lastOr y l := by
      cases l with
      | nil => rfl
      | cons z l => simp [lastOr, List.getLast?_cons_cons]; cases h : (z :: l).getLast? <;> simp_all
    simp only [List.cons_append, rightL, h, e, Bool.and_assoc]
/-- a region of which each run has a cell -/
def Proper (W H : Int) (l : List R3) : Prop := rightL W H (-1, 0, 0) l = true ∧ ∀ r, r ∈ l → r.2.1 < r.2.2
theorem Proper.rows0 {W H : Int} {l : List R3} (h : Proper W H l) : ∀ r, r ∈ l → 0 ≤ r.1 ∧ r.1 ≤ H - 1 ∧ 0 ≤ r.2.1 ∧ r.2.1 < r.2.2 ∧ r.2.2 ≤ W := fun r hr => by
  have := right_rows h.1 r hr
  have := h.2 r hr
  omega
theorem right_next {W H : Int} : ∀ {l : List R3} {p : R3} {k : Nat} {a b : R3}, rightL W H p l = true → l[k]? = some a → l[k + 1]? = some b → a.1 ≤ b.1 ∧ ¬ (b.1 = a.1 ∧ b.2.1 ≤ a.2.2)
  | [], _, _, _, _, _, h, _ => by simp at h
  | [x], _, _, _, _, _, _, h => by simp at h
  | x :: y :: l, p, 0, a, b, h, ha, hb => by
    simp at ha hb
    subst ha hb
    simp only [rightL, Bool.and_eq_true, okR, inB, decide_eq_true_eq, Bool.not_eq_true', Bool.and_eq_false_iff, beq_eq_false_iff_ne, decide_eq_false_iff_not] at h
    omega
  | x :: y :: l, p, k + 1, a, b, h, ha, hb => by
    simp only [rightL, Bool.and_eq_true] at h
    exact right_next (l := y :: l) (p := x) (k := k) (by simp only [rightL, Bool.and_eq_true]; exact h.2) (by simpa using ha) (by simpa using hb)
/-- a comb on the way, in row y, ahead of place x -/
def Combed (H : Int) (l : List R3) (y x : Int) : Prop := Proper 256 H l ∧ (∀ r, l.getLast? = some r → r.1 < y ∨ (r.1 = y ∧ r.2.2 < x)) ∧ l.length ≤ 8192
theorem Combed.add {H y x x' : Int} {l : List R3} (h : Combed H l y x) (hy : 0 ≤ y ∧ y < H) (hx : 0 ≤ x ∧ x < 256) (hl : l.length < 8192) (hx' : x + 1 < x') : Combed H (l ++ [(y, x, x + 1)]) y x' := by
  obtain ⟨⟨h1, h2⟩, h3, h4⟩ := h
  have e : wrap64 (x + 1 - 1) = x + 1 - 1 := wrapId _ (by omega) (by omega)
  refine ⟨⟨?_, fun r hr => ?_⟩, fun r hr => ?_, by simp; omega⟩
  · rw [rightL_snoc, h1, Bool.true_and]
    unfold lastOr
    cases hg : l.getLast? with
    | none =>
      simp only [Option.getD_none, okR, inB, Bool.and_eq_true, decide_eq_true_eq, Bool.not_eq_true', Bool.and_eq_false_iff, beq_eq_false_iff_ne, decide_eq_false_iff_not, e, ne_eq]
      omega
    | some r =>
      have h5 := h3 r hg
      simp only [Option.getD_some, okR, inB, Bool.and_eq_true, decide_eq_true_eq, Bool.not_eq_true', Bool.and_eq_false_iff, beq_eq_false_iff_ne, decide_eq_false_iff_not, e, ne_eq]
      omega
  · rcases List.mem_append.1 hr with hr | hr
    · exact h2 r hr
    · simp at hr; subst hr; simp only; omega
  · simp at hr
    subst hr
    exact .inr ⟨rfl, hx'⟩
theorem Combed.row {H y x : Int} {l : List R3} (h : Combed H l y x) (x' : Int) : Combed H l (y + 1) x' :=
  ⟨h.1, fun r hr => by have := h.2.1 r hr; omega, h.2.2⟩
theorem Combed.start {H y x x' : Int} {l : List R3} (h : Combed H l y x) (hx : x ≤ x') : Combed H l y x' :=
  ⟨h.1, fun r hr => by have := h.2.1 r hr; omega, h.2.2⟩

end Go.Proofs.YtnbdnnbeiohmgaaDoor
