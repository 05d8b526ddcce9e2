/- The document's two: the cells of either, of both, of the one without the other. -/
import Derived.Test.YtnbdnnbeiohmgaaDoorLgRunsW
import Derived.Test.YtnbdnnbeiohmgaaDoorLgEvery
import Derived.Test.YtnbdnnbeiohmgaaDoorLgValid
namespace Go.Proofs.YtnbdnnbeiohmgaaDoor
open Go.RowKit Go.Shelf

/-- which cells: 0 either, 1 both, 2 the one without the other -/
def cmb (kd : Int) (x y : Bool) : Bool := (decide (kd = 0) && (x || y)) || (decide (kd = 1) && x && y) || (decide (kd = 2) && x && !y)
theorem refR_congr {P Q : Int → Int → Bool} {W H : Nat} (h : ∀ x y : Int, 0 ≤ x → x < W → 0 ≤ y → y < H → P x y = Q x y) : refR P W H = refR Q W H := by
  unfold refR
  refine rowsR_congr fun y hy => ?_
  have key : ∀ n, n ≤ W → runRow (fun x => P x y) n = runRow (fun x => Q x y) n := by
    intro n
    induction n with
    | zero => intro _; rfl
    | succ n ih =>
      intro hn
      have e := h n y (by omega) (by omega) (by omega) (by omega)
      cases hq : Q n y with
      | true => simp [runRow, e.trans hq, hq, ih (by omega)]
      | false => simp [runRow, e.trans hq, hq, ih (by omega)]
  exact key W (Nat.le_refl _)

end Go.Proofs.YtnbdnnbeiohmgaaDoor
