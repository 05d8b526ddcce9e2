/- The plain functions that the walks of package tracks come to, with int's wraps as Go has them. Nothing of the program is in sight. -/
import Derived.WalkKit
import Derived.Test.YtnbdnnbeiohmgaaDoorRings
namespace Go.Proofs.YtnbdnnbeiohmgaaDoor
open Go.RowKit
open Go.Proofs.Rings (Leg sg)

def withinB (n lo hi : Int) : Bool := decide (lo ≤ n) && decide (n ≤ hi)
/-- tracks.size -/
def szW (n : Int) : Int := if n < wrap64 (-n) then wrap64 (-n) else n
/-- tracks.shifted, of one number -/
def shW (x u n : Int) : Int := wrap64 (x + wrap64 (u * n))
/-- is a number of a spot valid, for package tracks? -/
def okC (n : Int) : Bool := decide (szW n ≤ 16777216)
def okS (s : Int × Int) : Bool := okC s.1 && okC s.2
/-- the leg between two spots -/
def legW (a b : Int × Int) : Leg :=
  { fx := a.1, fy := a.2, wx := sg (wrap64 (b.1 - a.1)), wy := sg (wrap64 (b.2 - a.2)),
    far := if wrap64 (b.1 - a.1) ≠ 0 ∧ wrap64 (b.2 - a.2) ≠ 0 ∧ szW (wrap64 (b.1 - a.1)) ≠ szW (wrap64 (b.2 - a.2)) then 0
      else max (szW (wrap64 (b.1 - a.1))) (szW (wrap64 (b.2 - a.2))) }
def legsW : List (Int × Int) → List Leg
  | a :: b :: l => legW a b :: legsW (b :: l)
  | _ => []
def aheadW (l : Leg) (s : Int × Int) : Int := wrap64 (wrap64 (wrap64 (s.1 - l.fx) * l.wx) + wrap64 (wrap64 (s.2 - l.fy) * l.wy))
def asideW (l : Leg) (s : Int × Int) : Int := wrap64 (wrap64 (wrap64 (s.2 - l.fy) * l.wx) - wrap64 (wrap64 (s.1 - l.fx) * l.wy))
def unitW (l : Leg) : Int := wrap64 (wrap64 (l.wx * l.wx) + wrap64 (l.wy * l.wy))
def distW (u v w : Int) : Bool := decide (wrap64 (wrap64 (u * u) + wrap64 (v * v)) ≤ wrap64 (w * w))
/-- leg.near -/
def nearW (l : Leg) (s : Int × Int) (w : Int) : Bool :=
  if aheadW l s < 0 then distW (wrap64 (s.1 - l.fx)) (wrap64 (s.2 - l.fy)) w
  else if wrap64 (l.far * unitW l) < aheadW l s then distW (wrap64 (s.1 - shW l.fx l.wx l.far)) (wrap64 (s.2 - shW l.fy l.wy l.far)) w
  else decide (wrap64 (asideW l s * asideW l s) ≤ wrap64 (wrap64 (unitW l * w) * w))

theorem legsW_length (l : List (Int × Int)) : (legsW l).length = l.length - 1 := by
  induction l with
  | nil => rfl
  | cons a l ih =>
    cases l with
    | nil => rfl
    | cons b l => simp only [legsW, List.length_cons] at *; omega
theorem legsW_get (l : List (Int × Int)) : ∀ (k : Nat) (a b : Int × Int), l[k]? = some a → l[k + 1]? = some b → (legsW l)[k]? = some (legW a b) := by
  induction l with
  | nil => intro k a b h; simp at h
  | cons x l ih =>
    intro k a b h1 h2
    cases l with
    | nil => simp at h2
    | cons y l =>
      cases k with
      | zero => simp at h1 h2; subst h1 h2; rfl
      | succ k => exact ih k a b (by simpa using h1) (by simpa using h2)
end Go.Proofs.YtnbdnnbeiohmgaaDoor
