/- grid.others. -/
import Derived.Test.YtnbdnnbeiohmgaaDoorGrAll
namespace Go.Proofs.YtnbdnnbeiohmgaaDoor
open Go.RowKit Go.Shelf Go.Lib

/-- the runs between those of a row: what is laid, where it stands, what is left -/
def othIn (y : Int) : Int → List R3 → List R3 × Int × List R3
  | p, [] => ([], p, [])
  | p, r :: l => if r.1 = y then ((if p < r.2.1 then [(y, p, r.2.1)] else []) ++ (othIn y r.2.2 l).1, (othIn y r.2.2 l).2) else ([], p, r :: l)
def othRow (W y : Int) (l : List R3) : List R3 × List R3 := ((othIn y 0 l).1 ++ (if (othIn y 0 l).2.1 < W then [(y, (othIn y 0 l).2.1, W)] else []), (othIn y 0 l).2.2)
def othF (W : Int) (l : List R3) : Nat → List R3 × List R3
  | 0 => ([], l)
  | n + 1 => ((othF W l n).1 ++ (othRow W n (othF W l n).2).1, (othRow W n (othF W l n).2).2)
theorem othIn_len (y : Int) : ∀ (l : List R3) (p : Int), (othIn y p l).1.length + (othIn y p l).2.2.length ≤ l.length := by
  intro l
  induction l with
  | nil => intro p; simp [othIn]
  | cons r l ih =>
    intro p
    simp only [othIn]
    by_cases h : r.1 = y
    · rw [if_pos h]
      have := ih r.2.2
      simp only [List.length_append, List.length_cons]
      split <;> simp <;> omega
    · rw [if_neg h]
      simp
theorem othF_len (W : Int) (l : List R3) : ∀ n, (othF W l n).1.length + (othF W l n).2.length ≤ l.length + n := by
  intro n
  induction n with
  | zero => simp [othF]
  | succ n ih =>
    have := othIn_len (n : Int) (othF W l n).2 0
    simp only [othF, othRow, List.length_append]
    split <;> simp <;> omega

/-- what Go's s[1:] is -/
theorem Runs.rest {w : World} {x : R3} {l : List R3} {b off n c : Nat} (h : Runs w (.slice (some ⟨b, off, none⟩) (n + 1) c) (x :: l)) : Runs w (.slice (if c = 1 then some ⟨b, off, none⟩ else some ⟨b, off + 3, none⟩) n (c - 1)) l := by
  have hn : n = l.length := by have := h.len; simpa using this
  obtain ⟨b', off', e', ht⟩ := h.tail
  cases e'
  by_cases hc : c = 1
  · obtain ⟨A', c', e, h1, h2, -⟩ := h
    cases e
    have hl : l = [] := List.eq_nil_of_length_eq_zero (by simp at h1; omega)
    subst hl
    exact ⟨_, _, rfl, by simp, by unfold maxLen at h2 ⊢; omega, fun h => by simp at h⟩
  · rw [if_neg hc]
    simpa using ht

end Go.Proofs.YtnbdnnbeiohmgaaDoor
