/- grid.Grow. -/
import Derived.Test.YtnbdnnbeiohmgaaDoorGrGrowF
import Derived.Deep.Cut
import Derived.Deep.Light
import Derived.Deep.CutRange
import Derived.BigGuard
namespace Go.Proofs.YtnbdnnbeiohmgaaDoor
open Go.RowKit Go.Shelf

def leadOf (S a b c d : Int) : Lead := { we := a / S, ea := (S - 1 + c) / S, so := b / S, no := (S - 1 + d) / S }
theorem pushB_iff {a b c d : Int} (h : pushB a b c d = true) : (-16777216 ≤ a ∧ a ≤ c) ∧ (-16777216 ≤ b ∧ b ≤ d) ∧ c ≤ 16777216 ∧ d ≤ 16777216 := by
  simp only [pushB, inB, Bool.and_eq_true, decide_eq_true_eq] at h
  omega
theorem div_in {n S : Int} (hS : 1 ≤ S) (hn : -33554432 ≤ n ∧ n ≤ 33554432) : -33554432 ≤ n / S ∧ n / S ≤ 33554432 := by
  constructor
  · exact (Int.le_ediv_iff_mul_le (by omega)).2 (by omega)
  · rcases Int.lt_or_le n 0 with h | h
    · have : n / S < 0 := Int.ediv_neg_of_neg_of_pos h (by omega)
      omega
    · have := Int.ediv_le_self S h
      omega

/-- the runs of a valid region lie in its rows -/
theorem right_rows {W H : Int} : ∀ {l : List R3} {p : R3}, rightL W H p l = true → ∀ r, r ∈ l → 0 ≤ r.1 ∧ r.1 ≤ H - 1 ∧ 0 ≤ r.2.1 ∧ r.2.1 ≤ wrap64 (r.2.2 - 1) ∧ r.2.2 ≤ W
  | [], _, _, r, hr => by simp at hr
  | x :: l, p, h, r, hr => by
    simp only [rightL, Bool.and_eq_true] at h
    rcases List.mem_cons.1 hr with e | e
    · subst e
      have h1 := h.1
      simp only [okR, inB, Bool.and_eq_true, decide_eq_true_eq] at h1
      omega
    · exact right_rows h.2 r e

end Go.Proofs.YtnbdnnbeiohmgaaDoor
