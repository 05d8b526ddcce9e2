/- The document's every: the cells of a grid. -/
import Derived.Test.YtnbdnnbeiohmgaaDoorLgA
import Derived.Test.YtnbdnnbeiohmgaaDoorGrCells
namespace Go.Proofs.YtnbdnnbeiohmgaaDoor
open Go.RowKit Go.Shelf

theorem encC_len (x : Int × Int) : (encC x).length = 2 := rfl
def rowEv (y : Nat) : Nat → List (Int × Int)
  | 0 => []
  | j + 1 => rowEv y j ++ [((j : Int), (y : Int))]
def everyL (W : Nat) : Nat → List (Int × Int)
  | 0 => []
  | k + 1 => everyL W k ++ rowEv k W
theorem rowEv_len (y : Nat) : ∀ n, (rowEv y n).length = n
  | 0 => rfl
  | n + 1 => by rw [rowEv, List.length_append, rowEv_len y n]; rfl
theorem everyL_len (W : Nat) : ∀ n, (everyL W n).length = n * W
  | 0 => by simp [everyL]
  | n + 1 => by rw [everyL, List.length_append, everyL_len W n, rowEv_len, Nat.add_mul]; omega
theorem mem_rowEv {y : Nat} {p q : Int} : ∀ {n : Nat}, (p, q) ∈ rowEv y n ↔ q = y ∧ 0 ≤ p ∧ p < n
  | 0 => by simp [rowEv] <;> omega
  | n + 1 => by
    rw [rowEv, List.mem_append, mem_rowEv]
    simp only [List.mem_singleton, Prod.mk.injEq]
    omega
theorem mem_everyL {W : Nat} {p q : Int} : ∀ {n : Nat}, (p, q) ∈ everyL W n ↔ (0 ≤ p ∧ p < W) ∧ 0 ≤ q ∧ q < n
  | 0 => by simp [everyL] <;> omega
  | n + 1 => by
    rw [everyL, List.mem_append, mem_everyL, mem_rowEv]
    omega

end Go.Proofs.YtnbdnnbeiohmgaaDoor
