/- A leg of a track, and nearness to it. -/
import Derived.WalkKit
import Derived.WalkLawsBesides
import Derived.WalkSpells
import Derived.Lib.Hide
import Derived.BigQuiet
import Derived.Deep.QuietTactic
import Derived.Deep.Draws
import Derived.RangeFuncNested
import Derived.RangeFuncBound
import Derived.RangeFuncCalls
import Derived.RangeFuncLeaves
import Derived.Shelf.Abstract
import Derived.OwnWalkIn
import Derived.TacticsInMore
import Derived.LoopNIn
import Derived.LoopIn
import Derived.StillTailTactics
import Derived.Deep.RegionHeld3
import Derived.Test.YtnbdnnbeiohmgaaDoorProg
namespace Go.Proofs.Rings

/-- a spot -/
abbrev Sp := Int × Int

/-- is a spot not farther from a leg (from (fx, fy) in the direction (wx, wy), far steps) than a width? -/
def nearL (fx fy wx wy far sx sy width : Int) : Bool :=
  let u := sx - fx
  let v := sy - fy
  let ahead := u * wx + v * wy
  let aside := v * wx - u * wy
  let unit := wx * wx + wy * wy
  if ahead < 0 then decide (u * u + v * v ≤ width * width)
  else if far * unit < ahead then
    decide ((sx - (fx + wx * far)) * (sx - (fx + wx * far)) + (sy - (fy + wy * far)) * (sy - (fy + wy * far)) ≤ width * width)
  else decide (aside * aside ≤ unit * width * width)

def sg (n : Int) : Int := if n < 0 then -1 else if n = 0 then 0 else 1
def ab (n : Int) : Int := if n < 0 then -n else n

/-- the leg between two spots -/
structure Leg where
  fx : Int
  fy : Int
  wx : Int
  wy : Int
  far : Int
  deriving DecidableEq, Inhabited

def legOf (a b : Sp) : Leg :=
  let u := b.1 - a.1
  let v := b.2 - a.2
  { fx := a.1, fy := a.2, wx := sg u, wy := sg v, far := if u ≠ 0 ∧ v ≠ 0 ∧ ab u ≠ ab v then 0 else max (ab u) (ab v) }

def nearLeg (l : Leg) (s : Sp) (width : Int) : Bool := nearL l.fx l.fy l.wx l.wy l.far s.1 s.2 width

theorem sq_le {a b : Int} (h0 : 0 ≤ a) (h : a ≤ b) : a * a ≤ b * b := Int.mul_le_mul h h h0 (by omega)

theorem sq_abs_le {a b : Int} (h0 : -b ≤ a) (h : a ≤ b) : a * a ≤ b * b := by
  by_cases h1 : a < 0
  · have := sq_le (a := -a) (b := b) (by omega) (by omega)
    rwa [Int.neg_mul_neg] at this
  · exact sq_le (by omega) h

/-- near a leg in the direction of x -/
theorem near_right {ax ay far sx sy w : Int} (h0 : 0 < far) (ha : ax ≤ sx) (hb : sx ≤ ax + far) (h1 : -w ≤ sy - ay) (h2 : sy - ay ≤ w) :
    nearLeg (legOf (ax, ay) (ax + far, ay)) (sx, sy) w = true := by
  have e : legOf (ax, ay) (ax + far, ay) = { fx := ax, fy := ay, wx := 1, wy := 0, far := far } := by
    simp [legOf, sg, ab]; omega
  rw [e]
  have := sq_abs_le h1 h2
  simp only [nearLeg, nearL]
  rw [if_neg (by omega), if_neg (by omega)]
  simpa using this

theorem near_up {ax ay far sx sy w : Int} (h0 : 0 < far) (ha : ay ≤ sy) (hb : sy ≤ ay + far) (h1 : -w ≤ sx - ax) (h2 : sx - ax ≤ w) :
    nearLeg (legOf (ax, ay) (ax, ay + far)) (sx, sy) w = true := by
  have e : legOf (ax, ay) (ax, ay + far) = { fx := ax, fy := ay, wx := 0, wy := 1, far := far } := by
    simp [legOf, sg, ab]; omega
  rw [e]
  have := sq_abs_le h1 h2
  simp only [nearLeg, nearL]
  rw [if_neg (by omega), if_neg (by omega)]
  simpa [Int.neg_mul_neg] using this

theorem near_left {ax ay far sx sy w : Int} (h0 : 0 < far) (ha : sx ≤ ax) (hb : ax - far ≤ sx) (h1 : -w ≤ sy - ay) (h2 : sy - ay ≤ w) :
    nearLeg (legOf (ax, ay) (ax - far, ay)) (sx, sy) w = true := by
  have e : legOf (ax, ay) (ax - far, ay) = { fx := ax, fy := ay, wx := -1, wy := 0, far := far } := by
    have hz : ax - far - ax = -far := by omega
    have hn : -far < 0 := by omega
    simp [legOf, sg, ab, hz]; omega
  rw [e]
  have := sq_abs_le h1 h2
  simp only [nearLeg, nearL]
  rw [if_neg (by omega), if_neg (by omega)]
  simpa [Int.neg_mul_neg] using this

theorem near_down {ax ay far sx sy w : Int} (h0 : 0 < far) (ha : sy ≤ ay) (hb : ay - far ≤ sy) (h1 : -w ≤ sx - ax) (h2 : sx - ax ≤ w) :
    nearLeg (legOf (ax, ay) (ax, ay - far)) (sx, sy) w = true := by
  have e : legOf (ax, ay) (ax, ay - far) = { fx := ax, fy := ay, wx := 0, wy := -1, far := far } := by
    have hz : ay - far - ay = -far := by omega
    have hn : -far < 0 := by omega
    simp [legOf, sg, ab, hz]; omega
  rw [e]
  have := sq_abs_le h1 h2
  simp only [nearLeg, nearL]
  rw [if_neg (by omega), if_neg (by omega)]
  simpa using this

/-- the spots of an expanding square track -/
def stepSq (p : Sp) (S : Int) (i : Nat) : Sp :=
  let d := ((i / 2 + 1 : Nat) : Int) * S
  match i % 4 with
  | 0 => (p.1 + d, p.2)
  | 1 => (p.1, p.2 + d)
  | 2 => (p.1 - d, p.2)
  | _ => (p.1, p.2 - d)
def posSq (s : Sp) (S : Int) : Nat → Sp
  | 0 => s
  | i + 1 => stepSq (posSq s S i) S i

theorem cast_odd (k : Nat) (S : Int) : ((2 * k + 1 : Nat) : Int) * S = 2 * (k * S) + S := by
  rw [Int.natCast_add, Int.natCast_mul, Int.add_mul, Int.mul_assoc]; simp
theorem cast_even (k : Nat) (S : Int) : ((2 * k + 2 : Nat) : Int) * S = 2 * (k * S) + 2 * S := by
  rw [Int.natCast_add, Int.natCast_mul, Int.add_mul, Int.mul_assoc]; simp

theorem pos_next {s : Sp} {S : Int} {k : Nat} (h : posSq s S (4 * k) = (s.1 - k * S, s.2 - k * S)) :
    posSq s S (4 * k + 1) = (s.1 + k * S + S, s.2 - k * S) ∧ posSq s S (4 * k + 2) = (s.1 + k * S + S, s.2 + k * S + S) ∧
    posSq s S (4 * k + 3) = (s.1 - k * S - S, s.2 + k * S + S) ∧ posSq s S (4 * k + 4) = (s.1 - k * S - S, s.2 - k * S - S) := by
  have h1 : posSq s S (4 * k + 1) = (s.1 + k * S + S, s.2 - k * S) := by
    show stepSq (posSq s S (4 * k)) S (4 * k) = _
    have e1 : 4 * k % 4 = 0 := by omega
    have e2 : 4 * k / 2 + 1 = 2 * k + 1 := by omega
    simp only [h, stepSq, e1, e2, cast_odd]
    refine Prod.ext ?_ ?_ <;> simp only <;> omega
  have h2 : posSq s S (4 * k + 2) = (s.1 + k * S + S, s.2 + k * S + S) := by
    show stepSq (posSq s S (4 * k + 1)) S (4 * k + 1) = _
    have e1 : (4 * k + 1) % 4 = 1 := by omega
    have e2 : (4 * k + 1) / 2 + 1 = 2 * k + 1 := by omega
    simp only [h1, stepSq, e1, e2, cast_odd]
    refine Prod.ext ?_ ?_ <;> simp only <;> omega
  have h3 : posSq s S (4 * k + 3) = (s.1 - k * S - S, s.2 + k * S + S) := by
    show stepSq (posSq s S (4 * k + 2)) S (4 * k + 2) = _
    have e1 : (4 * k + 2) % 4 = 2 := by omega
    have e2 : (4 * k + 2) / 2 + 1 = 2 * k + 2 := by omega
    simp only [h2, stepSq, e1, e2, cast_even]
    refine Prod.ext ?_ ?_ <;> simp only <;> omega
  have h4 : posSq s S (4 * k + 4) = (s.1 - k * S - S, s.2 - k * S - S) := by
    show stepSq (posSq s S (4 * k + 3)) S (4 * k + 3) = _
    have e1 : (4 * k + 3) % 4 = 3 := by omega
    have e2 : (4 * k + 3) / 2 + 1 = 2 * k + 2 := by omega
    simp only [h3, stepSq, e1, e2, cast_even]
    refine Prod.ext ?_ ?_ <;> simp only <;> omega
  exact ⟨h1, h2, h3, h4⟩

theorem cast_succ_mul (k : Nat) (S : Int) : ((k + 1 : Nat) : Int) * S = k * S + S := by rw [Int.natCast_add, Int.add_mul]; simp

theorem pos_four (s : Sp) (S : Int) (k : Nat) : posSq s S (4 * k) = (s.1 - k * S, s.2 - k * S) := by
  induction k with
  | zero => simp [posSq]
  | succ k ih =>
    have e : 4 * (k + 1) = 4 * k + 4 := by omega
    rw [e, (pos_next ih).2.2.2, cast_succ_mul]
    refine Prod.ext ?_ ?_ <;> simp only <;> omega

/-- each place that differs from s by at most m S, in x and in y, is within S of one of the first 4 m + 1 legs -/
theorem rings (s : Sp) (S : Int) (m : Nat) (px py : Int) (hS : 1 ≤ S) (hm : 1 ≤ m)
    (h1 : -(m * S) ≤ px - s.1) (h2 : px - s.1 ≤ m * S) (h3 : -(m * S) ≤ py - s.2) (h4 : py - s.2 ≤ m * S) :
    ∃ i, i < 4 * m + 1 ∧ nearLeg (legOf (posSq s S i) (posSq s S (i + 1))) (px, py) S = true := by
  obtain ⟨r, hr1, hr2, hr3, hr4, hr5, hr6⟩ : ∃ r : Int, 0 ≤ r ∧ r ≤ m * S ∧ -r ≤ px - s.1 ∧ px - s.1 ≤ r ∧ (-r ≤ py - s.2 ∧ py - s.2 ≤ r) ∧
      (r = px - s.1 ∨ -r = px - s.1 ∨ r = py - s.2 ∨ -r = py - s.2) := by
    by_cases ha : ab (px - s.1) ≤ ab (py - s.2)
    · refine ⟨ab (py - s.2), ?_⟩; unfold ab at *; split at ha <;> split at ha <;> omega
    · refine ⟨ab (px - s.1), ?_⟩; unfold ab at *; split at ha <;> split at ha <;> omega
  -- the ring: k + 1
  obtain ⟨k, hk1, hk2, hk3⟩ : ∃ k : Nat, k + 1 ≤ m ∧ (k = 0 ∨ (k : Int) * S < r) ∧ r ≤ k * S + S := by
    by_cases h0 : r = 0
    · exact ⟨0, hm, .inl rfl, by simp; omega⟩
    · refine ⟨((r - 1) / S).toNat, ?_, ?_, ?_⟩
      · have hq0 : 0 ≤ (r - 1) / S := Int.ediv_nonneg (by omega) (by omega)
        have hq : (r - 1) / S < m := Int.ediv_lt_of_lt_mul (by omega) (by omega)
        omega
      · right
        have hq0 : 0 ≤ (r - 1) / S := Int.ediv_nonneg (by omega) (by omega)
        rw [Int.toNat_of_nonneg hq0]
        have := Int.ediv_mul_le (r - 1) (b := S) (by omega)
        omega
      · have hq0 : 0 ≤ (r - 1) / S := Int.ediv_nonneg (by omega) (by omega)
        rw [Int.toNat_of_nonneg hq0]
        have := Int.lt_ediv_add_one_mul_self (r - 1) (b := S) (by omega)
        rw [Int.add_mul] at this
        omega
  have p0 := pos_four s S k
  obtain ⟨p1, p2, p3, p4⟩ := pos_next p0
  have p4' : posSq s S (4 * (k + 1)) = (s.1 - ((k + 1 : Nat) : Int) * S, s.2 - ((k + 1 : Nat) : Int) * S) := pos_four s S (k + 1)
  have p5 := (pos_next p4').1
  have e4 : 4 * (k + 1) = 4 * k + 4 := by omega
  rw [e4] at p4' p5
  rw [cast_succ_mul] at p5
  have hK : (0 : Int) ≤ k * S := Int.mul_nonneg (by omega) (by omega)
  have hk2' : (k : Int) * S ≤ r := by
    rcases hk2 with rfl | h
    · simpa using hr1
    · omega
  generalize hKe : (k : Int) * S = K at *
  -- the right side, the top, the left side, the bottom
  have right : px - s.1 = r → -K ≤ py - s.2 → nearLeg (legOf (posSq s S (4 * k + 1)) (posSq s S (4 * k + 1 + 1))) (px, py) S = true := fun ha hb => by
    have e : s.2 + K + S = (s.2 - K) + (2 * K + S) := by omega
    rw [p1, p2, e]
    exact near_up (by omega) (by omega) (by omega) (by omega) (by omega)
  have top : py - s.2 = r → nearLeg (legOf (posSq s S (4 * k + 2)) (posSq s S (4 * k + 2 + 1))) (px, py) S = true := fun ha => by
    have e : s.1 - K - S = (s.1 + K + S) - (2 * K + 2 * S) := by omega
    rw [p2, p3, e]
    exact near_left (by omega) (by omega) (by omega) (by omega) (by omega)
  have left : px - s.1 = -r → nearLeg (legOf (posSq s S (4 * k + 3)) (posSq s S (4 * k + 3 + 1))) (px, py) S = true := fun ha => by
    have e : s.2 - K - S = (s.2 + K + S) - (2 * K + 2 * S) := by omega
    rw [p3, p4, e]
    exact near_down (by omega) (by omega) (by omega) (by omega) (by omega)
  have bottom : py - s.2 ≤ -K → nearLeg (legOf (posSq s S (4 * k + 4)) (posSq s S (4 * k + 4 + 1))) (px, py) S = true := fun ha => by
    have e : s.1 + (K + S) + S = (s.1 - K - S) + (2 * K + 3 * S) := by omega
    have e2 : s.2 - (K + S) = s.2 - K - S := by omega
    rw [p4, p5, e, e2]
    exact near_right (by omega) (by omega) (by omega) (by omega) (by omega)
  rcases hr6 with h | h | h | h
  · by_cases hb : -K ≤ py - s.2
    · exact ⟨4 * k + 1, by omega, right h.symm hb⟩
    · exact ⟨4 * k + 4, by omega, bottom (by omega)⟩
  · exact ⟨4 * k + 3, by omega, left h.symm⟩
  · exact ⟨4 * k + 2, by omega, top h.symm⟩
  · exact ⟨4 * k + 4, by omega, bottom (by omega)⟩
end Go.Proofs.Rings
/- The plain functions that the walks of package tracks come to, with int's wraps as Go has them. Nothing of the program is in sight. -/
namespace Go.Proofs.YtnbdnnbeiohmgaaDoor
open Go.RowKit
open Go.Proofs.Rings (Leg sg)

def withinB (n lo hi : Int) : Bool := decide (lo ≤ n) && decide (n ≤ hi)
/-- tracks.size -/
def szW (n : Int) : Int := if n < wrap64 (-n) then wrap64 (-n) else n
/-- tracks.shifted, of one number -/
def shW (x u n : Int) : Int := wrap64 (x + wrap64 (u * n))
/-- is a number of a spot valid, for package tracks? -/
def okC (n : Int) : Bool := decide (szW n ≤ 16777216)
def okS (s : Int × Int) : Bool := okC s.1 && okC s.2
/-- the leg between two spots -/
def legW (a b : Int × Int) : Leg :=
  { fx := a.1, fy := a.2, wx := sg (wrap64 (b.1 - a.1)), wy := sg (wrap64 (b.2 - a.2)),
    far := if wrap64 (b.1 - a.1) ≠ 0 ∧ wrap64 (b.2 - a.2) ≠ 0 ∧ szW (wrap64 (b.1 - a.1)) ≠ szW (wrap64 (b.2 - a.2)) then 0
      else max (szW (wrap64 (b.1 - a.1))) (szW (wrap64 (b.2 - a.2))) }
def legsW : List (Int × Int) → List Leg
  | a :: b :: l => legW a b :: legsW (b :: l)
  | _ => []
def aheadW (l : Leg) (s : Int × Int) : Int := wrap64 (wrap64 (wrap64 (s.1 - l.fx) * l.wx) + wrap64 (wrap64 (s.2 - l.fy) * l.wy))
def asideW (l : Leg) (s : Int × Int) : Int := wrap64 (wrap64 (wrap64 (s.2 - l.fy) * l.wx) - wrap64 (wrap64 (s.1 - l.fx) * l.wy))
def unitW (l : Leg) : Int := wrap64 (wrap64 (l.wx * l.wx) + wrap64 (l.wy * l.wy))
def distW (u v w : Int) : Bool := decide (wrap64 (wrap64 (u * u) + wrap64 (v * v)) ≤ wrap64 (w * w))
/-- leg.near -/
def nearW (l : Leg) (s : Int × Int) (w : Int) : Bool :=
  if aheadW l s < 0 then distW (wrap64 (s.1 - l.fx)) (wrap64 (s.2 - l.fy)) w
  else if wrap64 (l.far * unitW l) < aheadW l s then distW (wrap64 (s.1 - shW l.fx l.wx l.far)) (wrap64 (s.2 - shW l.fy l.wy l.far)) w
  else decide (wrap64 (asideW l s * asideW l s) ≤ wrap64 (wrap64 (unitW l * w) * w))

theorem legsW_length (l : List (Int × Int)) : (legsW l).length = l.length - 1 := by
  induction l with
  | nil => rfl
  | cons a l ih =>
    cases l with
    | nil => rfl
    | cons b l => simp only [legsW, List.length_cons] at *; omega
theorem legsW_get (l : List (Int × Int)) : ∀ (k : Nat) (a b : Int × Int), l[k]? = some a → l[k + 1]? = some b → (legsW l)[k]? = some (legW a b) := by
  induction l with
  | nil => intro k a b h; simp at h
  | cons x l ih =>
    intro k a b h1 h2
    cases l with
    | nil => simp at h2
    | cons y l =>
      cases k with
      | zero => simp at h1 h2; subst h1 h2; rfl
      | succ k => exact ih k a b (by simpa using h1) (by simpa using h2)
end Go.Proofs.YtnbdnnbeiohmgaaDoor
/- Contracts of the small functions of package tracks. -/
namespace Go.Proofs.YtnbdnnbeiohmgaaDoor
open Go.RowKit
open Go.Proofs.Rings (Leg sg)

theorem ret_of {v u : Value} (h : v = u) : Ending.returned v = .returned u := by rw [h]
theorem below_drewN {B : Nat} {a w : World} (h : Below B a w) (n : Nat) : Below B a (w.drewN n) := ⟨h.os, h.tape, h.output, h.size, h.block⟩

theorem within_tk (n lo hi : Int) (w : World) : Calls Tryd.prog 22 #[.int .i64 n, .int .i64 lo, .int .i64 hi] w fun e w' => e = .returned (.bool (withinB n lo hi)) ∧ w = w' := by
  go_enter Tryd.func22, Tryd.ntmps22
  go_wp2
  · go_ret
    have h : lo ≤ n := by assumption
    exact ⟨by simp [withinB, h], rfl⟩
  · go_ret
    have h : n < lo := by assumption
    have h' : ¬ lo ≤ n := by omega
    exact ⟨by simp [withinB, h'], rfl⟩

theorem size_tk (n : Int) (w : World) : Calls Tryd.prog 41 #[.int .i64 n] w fun e w' => e = .returned (.int .i64 (szW n)) ∧ w = w' := by
  go_enter Tryd.func41, Tryd.ntmps41
  go_wp2
  · go_ret
    have h : n < wrap64 (-n) := by assumption
    exact ⟨by simp [szW, h], rfl⟩
  · go_ret
    have h : ¬ n < wrap64 (-n) := by have : wrap64 (-n) ≤ n := by assumption
                                     omega
    exact ⟨by simp [szW, h], rfl⟩

theorem sign_tk (n : Int) (w : World) : Calls Tryd.prog 43 #[.int .i64 n] w fun e w' => e = .returned (.int .i64 (sg n)) ∧ w = w' := by
  rcases Int.lt_trichotomy n 0 with h | h | h
  · have h1 : n < 1 := by omega
    have h2 : ¬ (-1 < n) := by omega
    go_enter Tryd.func43, Tryd.ntmps43
    go_wp2
    all_goals (go_ret; exact ⟨by simp [sg, h], rfl⟩)
  · subst h
    go_enter Tryd.func43, Tryd.ntmps43
    go_wp2
    all_goals (go_ret; exact ⟨by simp [sg], rfl⟩)
  · have h1 : ¬ n < 0 := by omega
    have h2 : n ≠ 0 := by omega
    by_cases h3 : n < 1
    · omega
    · go_enter Tryd.func43, Tryd.ntmps43
      go_wp2
      all_goals (go_ret; exact ⟨by simp [sg, h1, h2], rfl⟩)

theorem shifted_tk (x y u v n : Int) (w : World) : Calls Tryd.prog 23 #[.agg #[.int .i64 x, .int .i64 y], .agg #[.int .i64 u, .int .i64 v], .int .i64 n] w fun e w' =>
    e = .returned (.agg #[.int .i64 (shW x u n), .int .i64 (shW y v n)]) ∧ Below w.heap.size w w' := by
  go_enter Tryd.func23, Tryd.ntmps23
  go_wp2
  refine bodyPost_ret (v := .agg #[.int .i64 (shW x u n), .int .i64 (shW y v n)]) (by simp [results, Tryd.results23, go_sem, shW]) rfl ⟨rfl, ?_⟩
  exact (((Below.refl _ _).alloc (Nat.le_refl _) _).alloc (by simp) _).alloc (by simp; omega) _

theorem straight_tk (l : Leg) (w : World) : Calls Tryd.prog 37 #[.agg #[.int .i64 l.fx, .int .i64 l.fy, .int .i64 l.wx, .int .i64 l.wy, .int .i64 l.far]] w fun e w' =>
    e = .returned (.bool (l.wx == 0 || l.wy == 0)) ∧ Below w.heap.size w w' := by
  obtain ⟨fx, fy, wx, wy, far⟩ := l
  dsimp only
  by_cases h : wx = 0
  · subst h
    go_enter Tryd.func37, Tryd.ntmps37
    go_wp2
    go_ret
    exact ⟨by simp, (Below.refl _ _).alloc (Nat.le_refl _) _⟩
  · have hb : (wx == 0) = false := by simpa using h
    go_enter Tryd.func37, Tryd.ntmps37
    go_wp2
    go_ret
    exact ⟨by simp [hb], (Below.refl _ _).alloc (Nat.le_refl _) _⟩

/-- the closure of valid: is a spot NOT valid? -/
theorem odd_tk (x y : Int) (w : World) : Calls Tryd.prog 40 #[.agg #[.int .i64 x, .int .i64 y]] w fun e w' =>
    e = .returned (.bool (!okS (x, y))) ∧ Below w.heap.size w w' := by
  by_cases h : szW x ≤ 16777216
  · have hb : decide (16777216 < szW x) = false := by simpa using h
    go_enter Tryd.func40, Tryd.ntmps40
    go_wp2_with fail
    refine (size_tk _ _).mono ?_
    rintro e w' ⟨rfl, rfl⟩
    go_wp2_with fail
    refine (size_tk _ _).mono ?_
    rintro e w' ⟨rfl, rfl⟩
    go_wp2_with fail
    go_ret
    refine ⟨ret_of ?_, (Below.refl _ _).alloc (Nat.le_refl _) _⟩
    by_cases h2 : szW y ≤ 16777216
    · simp [okS, okC, h, h2]
    · simp [okS, okC, h, h2]; omega
  · have hb : 16777216 < szW x := by omega
    go_enter Tryd.func40, Tryd.ntmps40
    go_wp2_with fail
    refine (size_tk _ _).mono ?_
    rintro e w' ⟨rfl, rfl⟩
    go_wp2_with fail
    go_ret
    exact ⟨ret_of (by simp [okS, okC, h]), (Below.refl _ _).alloc (Nat.le_refl _) _⟩
end Go.Proofs.YtnbdnnbeiohmgaaDoor
/- The contract of leg.near: what it comes to, with all wraps. -/
namespace Go.Proofs.YtnbdnnbeiohmgaaDoor
open Go.RowKit
open Go.Proofs.Rings (Leg sg)

set_option maxRecDepth 100000 in
set_option maxHeartbeats 1000000 in
theorem near_tk (l : Leg) (sx sy wd : Int) (w : World) : Calls Tryd.prog 26 #[.agg #[.int .i64 l.fx, .int .i64 l.fy, .int .i64 l.wx, .int .i64 l.wy, .int .i64 l.far], .agg #[.int .i64 sx, .int .i64 sy], .int .i64 wd] w fun e w' =>
    e = .returned (.bool (nearW l (sx, sy) wd)) ∧ Below w.heap.size w w' := by
  obtain ⟨fx, fy, wx, wy, far⟩ := l
  dsimp only
  have d0 : aheadW ⟨fx, fy, wx, wy, far⟩ (sx, sy) = wrap64 (wrap64 (wrap64 (sx - fx) * wx) + wrap64 (wrap64 (sy - fy) * wy)) := rfl
  have d1 : unitW ⟨fx, fy, wx, wy, far⟩ = wrap64 (wrap64 (wx * wx) + wrap64 (wy * wy)) := rfl
  have D0 := Lib.hid d0
  have D1 := Lib.hid d1
  clear d0 d1
  go_enter Tryd.func26, Tryd.ntmps26
  go_wp2_with fail
  go_quiet (fail)
  go_wp2_with fail
  go_quiet (fail)
  go_wp2_with fail
  · go_ret
    have h : wrap64 (wrap64 (wrap64 (sx - fx) * wx) + wrap64 (wrap64 (sy - fy) * wy)) < 0 := by assumption
    refine ⟨ret_of (by simp only [nearW, D0.out, if_pos h]; rfl), ?_⟩
    exact below_drewN (((Below.refl _ _).alloc (Nat.le_refl _) _).alloc (by simp) _) _
  · refine (shifted_tk _ _ _ _ _ _).mono ?_
    rintro e w1 ⟨rfl, hb⟩
    have h : ¬ wrap64 (wrap64 (wrap64 (sx - fx) * wx) + wrap64 (wrap64 (sy - fy) * wy)) < 0 := by
      have : 0 ≤ wrap64 (wrap64 (wrap64 (sx - fx) * wx) + wrap64 (wrap64 (sy - fy) * wy)) := by assumption
      omega
    have h2 : wrap64 (far * wrap64 (wrap64 (wx * wx) + wrap64 (wy * wy))) < wrap64 (wrap64 (wrap64 (sx - fx) * wx) + wrap64 (wrap64 (sy - fy) * wy)) := by assumption
    have hfin : nearW ⟨fx, fy, wx, wy, far⟩ (sx, sy) wd = distW (wrap64 (sx - shW fx wx far)) (wrap64 (sy - shW fy wy far)) wd := by
      simp only [nearW, D0.out, D1.out, if_neg h, if_pos h2]
    have Hfin := Lib.hid hfin
    clear hfin h h2
    have hc0 := hb.cell (p := ⟨w.heap.size + 1, 0, none⟩) (by simp)
    have hc1 := hb.cell (p := ⟨w.heap.size + 1, 1, none⟩) (by simp)
    have hs := hb.size
    simp at hs
    have hbb : Below w.heap.size w w1 := (below_drewN (((Below.refl w.heap.size w).alloc (Nat.le_refl _) _).alloc (by simp) _) _).trans (hb.mono (by simp; omega))
    clear hb
    simp [go_sem] at hc0 hc1
    have hz : w.heap.size + 1 < w1.heap.size := by omega
    go_wp2_with fail
    go_quiet (fail)
    go_wp2_with fail
    go_ret
    refine ⟨ret_of (by rw [Hfin.out]; rfl), ?_⟩
    exact below_drewN (hbb.alloc (by omega) _) _
  · go_ret
    have h : ¬ wrap64 (wrap64 (wrap64 (sx - fx) * wx) + wrap64 (wrap64 (sy - fy) * wy)) < 0 := by
      have : 0 ≤ wrap64 (wrap64 (wrap64 (sx - fx) * wx) + wrap64 (wrap64 (sy - fy) * wy)) := by assumption
      omega
    have h2 : ¬ wrap64 (far * wrap64 (wrap64 (wx * wx) + wrap64 (wy * wy))) < wrap64 (wrap64 (wrap64 (sx - fx) * wx) + wrap64 (wrap64 (sy - fy) * wy)) := by
      have : wrap64 (wrap64 (wrap64 (sx - fx) * wx) + wrap64 (wrap64 (sy - fy) * wy)) ≤ wrap64 (far * wrap64 (wrap64 (wx * wx) + wrap64 (wy * wy))) := by assumption
      omega
    refine ⟨ret_of (by simp only [nearW, D0.out, D1.out, if_neg h, if_neg h2]; rfl), ?_⟩
    exact below_drewN (((Below.refl _ _).alloc (Nat.le_refl _) _).alloc (by simp) _) _
end Go.Proofs.YtnbdnnbeiohmgaaDoor
/- Slices of spots: how they read; valid. -/
namespace Go.Proofs.YtnbdnnbeiohmgaaDoor
open Go.RowKit

/-- the slice value v reads as the spots l -/
def Spots (w : World) (v : Value) (l : List (Int × Int)) : Prop :=
  ∃ A c, v = .slice A l.length c ∧ l.length ≤ c ∧ c ≤ maxLen ∧ (0 < l.length → ∃ b off, A = some ⟨b, off, none⟩ ∧ b < w.heap.size ∧
    ∀ (k : Nat) (s : Int × Int), l[k]? = some s → w.cell? ⟨b, off + k * 2, none⟩ = some (.int .i64 s.1) ∧ w.cell? ⟨b, off + k * 2 + 1, none⟩ = some (.int .i64 s.2))

theorem Spots.keep {w w' : World} {v : Value} {l : List (Int × Int)} (h : Spots w v l) (hs : w.heap.size ≤ w'.heap.size) (hk : ∀ p : Addr, p.block < w.heap.size → w'.cell? p = w.cell? p) : Spots w' v l := by
  obtain ⟨A, c, e, h1, h2, h3⟩ := h
  refine ⟨A, c, e, h1, h2, fun h0 => ?_⟩
  obtain ⟨b, off, e', hb, hc⟩ := h3 h0
  exact ⟨b, off, e', by omega, fun k s hks => ⟨(hk ⟨b, off + k * 2, none⟩ hb).trans (hc k s hks).1, (hk ⟨b, off + k * 2 + 1, none⟩ hb).trans (hc k s hks).2⟩⟩
theorem Spots.below {w w' : World} {v : Value} {l : List (Int × Int)} (h : Spots w v l) (hb : Below w.heap.size w w') : Spots w' v l := h.keep hb.size fun _ hp => hb.cell hp
theorem Spots.alloc {w : World} {v : Value} {l : List (Int × Int)} (h : Spots w v l) (o : Obj) : Spots (w.alloc o) v l := h.below ((Below.refl _ _).alloc (Nat.le_refl _) _)

set_option maxHeartbeats 400000 in
theorem index_tk (v : Value) (l : List (Int × Int)) (w : World) (h : Spots w v l) :
    Calls Tryd.prog 60 #[v, .func (.func 40) #[] #[]] w fun e w' =>
      (∃ i : Int, e = .returned (.int .i64 i) ∧ (0 ≤ i ↔ l.any (fun s => !okS s) = true)) ∧ Below w.heap.size w w' := by
  obtain ⟨A, c, rfl, h1, h2, h3⟩ := h
  unfold maxLen at h2
  go_enter Tryd.func60, Tryd.ntmps60
  go_wp2_with fail
  go_loopw [8] (fun i wr => ∃ k : Nat, k ≤ l.length ∧ i = .int .i64 k ∧ Below w.heap.size w wr ∧ Hid (∀ j, j < k → ∀ s, l[j]? = some s → okS s = true)) (fun i _ => l.length - (intOf i).toNat)
  case atStart => exact ⟨0, Nat.zero_le _, rfl, Below.refl _ _, fun j hj => by omega⟩
  case round =>
    obtain ⟨k, hk, rfl, hb, hA⟩ := hrel
    by_cases hlt : k < l.length
    · obtain ⟨b, off, rfl, hbl, hc⟩ := h3 (by omega)
      obtain ⟨⟨x, y⟩, hs⟩ : ∃ s, l[k]? = some s := ⟨_, List.getElem?_eq_getElem hlt⟩
      have hx := (hb.cell (p := ⟨b, off + k * 2, none⟩) hbl).trans (hc k _ hs).1
      have hy := (hb.cell (p := ⟨b, off + k * 2 + 1, none⟩) hbl).trans (hc k _ hs).2
      have HS := Lib.hid hs
      clear hs hc h3
      dsimp only at hx hy
      have hcall := odd_tk x y wr
      cases hok : okS (x, y) with
      | true =>
        rw [hok] at hcall
        have HC := Lib.hid hcall
        have HO := Lib.hid hok
        clear hcall hok
        go_wp2_with fail
        refine HC.out.mono ?_
        rintro e w1 ⟨rfl, hb1⟩
        go_wp2_with fail
        go_roundw
        case rel => exact ⟨k + 1, by omega, by go_num, hb.trans (hb1.mono hb.size), fun j hj s hs => by
          by_cases e : j = k
          · subst e; rw [HS.out] at hs; cases hs; exact HO.out
          · exact hA.out j (by omega) s hs⟩
        case measure => simp [intOf]; omega
      | false =>
        rw [hok] at hcall
        have HC := Lib.hid hcall
        have HO := Lib.hid hok
        clear hcall hok
        go_wp2_with fail
        refine HC.out.mono ?_
        rintro e w1 ⟨rfl, hb1⟩
        go_wp2_with fail
        go_ret
        refine ⟨⟨k, rfl, ?_⟩, hb.trans (hb1.mono hb.size)⟩
        have hm : (x, y) ∈ l := List.mem_of_getElem? HS.out
        have : l.any (fun s => !okS s) = true := List.any_eq_true.2 ⟨_, hm, by rw [HO.out]; rfl⟩
        simp [this]
    · have hke : k = l.length := by omega
      subst hke
      go_wp2_with fail
      go_ret
      refine ⟨⟨-1, rfl, ?_⟩, hb⟩
      have : l.any (fun s => !okS s) = false := by
        rw [List.any_eq_false]
        intro s hs
        obtain ⟨j, hj, e⟩ := List.getElem_of_mem hs
        have := hA.out j hj s (by rw [List.getElem?_eq_getElem hj, e])
        simp [this]
      simp [this]

theorem contains_tk (v : Value) (l : List (Int × Int)) (w : World) (h : Spots w v l) :
    Calls Tryd.prog 39 #[v, .func (.func 40) #[] #[]] w fun e w' =>
      e = .returned (.bool (!l.all okS)) ∧ Below w.heap.size w w' := by
  have hi := index_tk v l w h
  obtain ⟨A, c, rfl, -⟩ := h
  have HI := Lib.hid hi
  clear hi
  go_enter Tryd.func39, Tryd.ntmps39
  go_wp2_with fail
  refine HI.out.mono ?_
  rintro e w1 ⟨⟨i, rfl, hi⟩, hb⟩
  have HI2 := Lib.hid hi
  clear hi
  go_wp2_with fail
  go_ret
  refine ⟨ret_of ?_, hb⟩
  congr 1
  have e1 : (!l.all okS) = l.any (fun s => !okS s) := by rw [List.not_all_eq_any_not]
  rw [e1]
  cases hq : l.any (fun s => !okS s) with
  | true => simp [HI2.out.2 hq]
  | false =>
    have : ¬ 0 ≤ i := fun h0 => by rw [HI2.out.1 h0] at hq; cases hq
    simp [this]

/-- valid -/
theorem valid_tk (v : Value) (l : List (Int × Int)) (w : World) (h : Spots w v l) :
    Calls Tryd.prog 21 #[v] w fun e w' => e = .returned (.bool (l.all okS)) ∧ Below w.heap.size w w' := by
  have hi := contains_tk v l w h
  obtain ⟨A, c, rfl, -⟩ := h
  have HI := Lib.hid hi
  clear hi
  go_enter Tryd.func21, Tryd.ntmps21
  go_wp2_with fail
  refine HI.out.mono ?_
  rintro e w1 ⟨rfl, hb⟩
  go_wp2_with fail
  go_ret
  exact ⟨ret_of (by simp), hb⟩
end Go.Proofs.YtnbdnnbeiohmgaaDoor
/- The iterator over the legs of a track. -/
namespace Go.Proofs.YtnbdnnbeiohmgaaDoor
open Go.RowKit Go.Shelf
open Go.Proofs.Rings (Leg sg)
attribute [local go_sem] Oper.semAt_some

def encLeg (l : Leg) : Value := .agg #[.int .i64 l.fx, .int .i64 l.fy, .int .i64 l.wx, .int .i64 l.wy, .int .i64 l.far]

theorem legs_tk (A : Option Addr) (m c : Nat) (w : World) : Calls Tryd.prog 25 #[.slice A m c] w fun e w' =>
    e = .returned (.func (.func 42) #[] #[.pointer (some ⟨w.heap.size, 0, none⟩)]) ∧ w' = w.alloc (.cells #[.slice A m c] 27) := by
  go_enter Tryd.func25, Tryd.ntmps25
  go_wp2
  go_ret
  exact ⟨rfl, rfl⟩

/-- a region whose head only reads and calls quietly, and whose end writes: the world behind the draw under a name of its own -/
theorem wp_still_tail_at {P : Program} {id : Nat} {Q : Exit → Act → World → Prop} {a : Act} {w : World} {l : List Oper} (n : Nat) (hm : P.follows .mixedOrders = true) (hB : Region.lexTailB .any l.toArray n = true)
    (h : ∀ w' : World, w' = w.drew → wpStill P l.toArray w' (fun a' => wpList P l.toArray Q (l.drop n) a' w') (l.take n) a) : (Code.region id l.toArray true).wp P Q a w :=
  wp_region_still_tail n hm hB (h _ rfl)

/-- all ways through a region come to one end -/
theorem wp_one {P : Program} {c : Code} {Q : Exit → Act → World → Prop} {a : Act} {w : World} {A : Act} {W : World} (h1 : c.wp P (fun e a' w' => e = Exit.normal ∧ a' = A ∧ w' = W) a w) (h2 : Q .normal A W) : c.wp P Q a w :=
  Code.wp_mono (fun _ _ _ ⟨he, ha, hw⟩ => by subst he; subst ha; subst hw; exact h2) h1

/-- nothing has been let go, and the cells of the blocks that S names read as they did -/
def KeepB (S : Nat → Prop) (A B : World) : Prop := A.heap.size ≤ B.heap.size ∧ ∀ p : Addr, S p.block → B.cell? p = A.cell? p
theorem KeepB.refl (S : Nat → Prop) (A : World) : KeepB S A A := ⟨Nat.le_refl _, fun _ _ => rfl⟩
theorem KeepB.trans {S : Nat → Prop} {A B C : World} (h : KeepB S A B) (k : KeepB S B C) : KeepB S A C := ⟨Nat.le_trans h.1 k.1, fun p hp => (k.2 p hp).trans (h.2 p hp)⟩
theorem KeepB.below {S : Nat → Prop} {n : Nat} {A B : World} (h : Below n A B) (hS : ∀ q, S q → q < n) : KeepB S A B := ⟨h.size, fun _ hp => h.cell (hS _ hp)⟩
theorem KeepB.cell {S : Nat → Prop} {A B : World} (h : KeepB S A B) {p : Addr} (hp : S p.block) : B.cell? p = A.cell? p := h.2 p hp
theorem KeepB.setCell {S : Nat → Prop} {A B : World} (h : KeepB S A B) {p : Addr} (hp : ¬ S p.block) (u : Value) : KeepB S A (B.setCell p u) :=
  ⟨by simpa [World.setCell] using h.1, fun q hq => (World.cell?_setCell_other B p q u (fun e => by subst e; exact hp hq)).trans (h.2 q hq)⟩
theorem KeepB.alloc {S : Nat → Prop} {A B : World} (h : KeepB S A B) (hS : ∀ q, S q → q < B.heap.size) (o : Obj) : KeepB S A (B.alloc o) :=
  h.trans (KeepB.below ((Below.refl _ _).alloc (Nat.le_refl _) o) hS)
theorem KeepB.drew {S : Nat → Prop} {A B : World} (h : KeepB S A B) : KeepB S A B.drew := h

theorem KeepB.putObj {S : Nat → Prop} {n : Nat} (hS : ∀ q, S q → q < n) (W : World) (l : Nat) (o' : Obj) (hl : n ≤ l) : KeepB S W (W.putObj l o') :=
  ⟨by simp, fun p hp => World.cell?_of_block (World.putObj_heap_other (fun e => by have := hS _ hp; omega))⟩

def uptoL (f : Nat → Int × Int) (k : Nat) : List Leg := (List.range k).map fun i => legW (f i) (f (i + 1))
theorem uptoL_succ (f : Nat → Int × Int) (k : Nat) : uptoL f (k + 1) = uptoL f k ++ [legW (f k) (f (k + 1))] := by simp [uptoL, List.range_succ]
theorem uptoL_length (f : Nat → Int × Int) (k : Nat) : (uptoL f k).length = k := by simp [uptoL]

set_option maxRecDepth 100000 in
set_option maxHeartbeats 2000000 in
theorem legs1_core (n : Nat) (hn : 1 ≤ n) (l Bs b off m c : Nat) (S : Nat → Prop) (hSb : S b) (hSB : S Bs) (f : Nat → Int × Int) (hm : 1 ≤ m) (hmc : m + 1 ≤ c) (hcm : c ≤ 9223372036854775807) (J Jx : List Leg → World → Prop) (W : World) (hSl : ∀ q, S q → q < W.heap.size)
    (hJ : AbidesFrom W.heap.size J) (hJx : AbidesFrom W.heap.size Jx)
    (hY : ∀ pre x W1, J pre W1 → pre.length < m → YieldAt Fence.wide (n - 1) Tryd.prog l #[encLeg x] W1 fun e W' =>
      (e = .returned (.bool true) ∧ J (pre ++ [x]) W' ∧ KeepB S W1 W') ∨ (e = .returned (.bool false) ∧ Jx (pre ++ [x]) W'))
    (hBs : W.cell? ⟨Bs, 0, none⟩ = some (.slice (some ⟨b, off, none⟩) (m + 1) c))
    (hc : ∀ k, k ≤ m → W.cell? ⟨b, off + k * 2, none⟩ = some (.int .i64 (f k).1) ∧ W.cell? ⟨b, off + k * 2 + 1, none⟩ = some (.int .i64 (f k).2)) (h0 : J [] W) :
    CallsIn Fence.wide n Tryd.prog 42 #[.func (.yield l) #[] #[], .pointer (some ⟨Bs, 0, none⟩)] W fun e W' => (∃ v, e = .returned v) ∧
      ((∃ ys, ys = uptoL f m ∧ J ys W') ∨ (∃ pre, (∃ k, k ≤ m ∧ pre = uptoL f k) ∧ Jx pre W')) := by
  refine callsIn_of_wp Tryd.func42 rfl trivial ?_ rfl
  simp only [Tryd.ntmps42, List.size_toArray, List.length_cons, List.length_nil, Nat.reduceAdd, Nat.reduceSub, Array.replicate_succ, Array.replicate_zero, List.push_toArray, List.append_toArray, List.nil_append, List.cons_append]
  have hm0 : (0 : Int) < (m : Int) := by omega
  gi_wp2
  gi_loopw [11] (fun i wr => ∃ k : Nat, k ≤ m ∧ i = .int .i64 k ∧ KeepB S W wr ∧ J (uptoL f k) wr ∧ W.heap.size ≤ wr.heap.size)
    (fun i _ => m - (intOf i).toNat)
  case atStart => exact ⟨0, Nat.zero_le _, rfl, KeepB.refl _ _, h0, Nat.le_refl _⟩
  case round =>
    obtain ⟨k, hk, rfl, hbw, hJs, hsz⟩ := hrel
    have hbox := (hbw.cell (p := ⟨Bs, 0, none⟩) hSB).trans hBs
    by_cases hlt : k < m
    · obtain ⟨x0, y0, hf0⟩ : ∃ x y, f k = (x, y) := ⟨_, _, rfl⟩
      obtain ⟨x1, y1, hf1⟩ : ∃ x y, f (k + 1) = (x, y) := ⟨_, _, rfl⟩
      have c0 := (hbw.cell (p := ⟨b, off + k * 2, none⟩) hSb).trans (hc k hk).1
      have c1 := (hbw.cell (p := ⟨b, off + k * 2 + 1, none⟩) hSb).trans (hc k hk).2
      have c2 := (hbw.cell (p := ⟨b, off + (k + 1) * 2, none⟩) hSb).trans (hc (k + 1) hlt).1
      have c3 := (hbw.cell (p := ⟨b, off + (k + 1) * 2 + 1, none⟩) hSb).trans (hc (k + 1) hlt).2
      rw [hf0] at c0 c1
      rw [hf1] at c2 c3
      dsimp only at c0 c1 c2 c3
      have HF0 := Lib.hid hf0
      have HF1 := Lib.hid hf1
      clear hf0 hf1 hc
      have hk1 : (k : Int) + 1 < (m : Int) + 1 := by omega
      have hk2 : (k : Int) < (m : Int) + 1 := by omega
      have e1 : IntKind.i64.wrap ((k : Int) + 1) = (k : Int) + 1 := IntWalk.i64_in _ (by omega)
      have e2 : ((k : Int) + 1).toNat = k + 1 := by omega
      gi_wp2
      refine wpIn_wide.2 ?_
      go_quiet (fail)
      clear e1 e2
      obtain ⟨u, hu⟩ : ∃ u, wrap64 (x1 - x0) = u := ⟨_, rfl⟩
      obtain ⟨v, hv⟩ : ∃ v, wrap64 (y1 - y0) = v := ⟨_, rfl⟩
      rw [hu, hv]
      have HU := Lib.hid hu
      have HV := Lib.hid hv
      clear hu hv
      obtain ⟨fr, hfr⟩ : ∃ fr, (if u ≠ 0 ∧ v ≠ 0 ∧ szW u ≠ szW v then 0 else max (szW u) (szW v)) = fr := ⟨_, rfl⟩
      have HFR := Lib.hid hfr
      clear hfr
      have hlen : (uptoL f k).length < m := by rw [uptoL_length]; exact hlt
      have hleg : legW (f k) (f (k + 1)) = ⟨x0, y0, sg u, sg v, fr⟩ := by
        rw [HF0.out, HF1.out]; simp only [legW, HU.out, HV.out, HFR.out]
      have hsigu : ∀ w, Calls Tryd.prog 43 #[.int .i64 u] w fun e w' => e = .returned (.int .i64 (sg u)) ∧ w' = w := fun w => (sign_tk u w).mono fun _ _ h => ⟨h.1, h.2.symm⟩
      have hsigv : ∀ w, Calls Tryd.prog 43 #[.int .i64 v] w fun e w' => e = .returned (.int .i64 (sg v)) ∧ w' = w := fun w => (sign_tk v w).mono fun _ _ h => ⟨h.1, h.2.symm⟩
      have hszu : ∀ w, Calls Tryd.prog 41 #[.int .i64 u] w fun e w' => e = .returned (.int .i64 (szW u)) ∧ w' = w := fun w => (size_tk u w).mono fun _ _ h => ⟨h.1, h.2.symm⟩
      have hszv : ∀ w, Calls Tryd.prog 41 #[.int .i64 v] w fun e w' => e = .returned (.int .i64 (szW v)) ∧ w' = w := fun w => (size_tk v w).mono fun _ _ h => ⟨h.1, h.2.symm⟩
      have HLEG := Lib.hid hleg
      have H1 := Lib.hid hsigu
      have H2 := Lib.hid hsigv
      have H3 := Lib.hid hszu
      have H4 := Lib.hid hszv
      clear hleg hsigu hsigv hszu hszv
      gi_wp2
      refine wpIn_wide.2 ?_
      have HMAX : Hid (max (szW u) (szW v) = if szW u < szW v then szW v else szW u) := by
        show max (szW u) (szW v) = _
        split <;> omega
      obtain ⟨w3, hw3⟩ : ∃ w3, wr.drewN nq = w3 := ⟨_, rfl⟩
      rw [hw3]
      have pst : (∀ p : Addr, w3.cell? p = wr.cell? p) ∧ KeepB S W w3 ∧ J (uptoL f k) w3 ∧ W.heap.size ≤ w3.heap.size := by
        subst hw3
        exact ⟨fun _ => rfl, hbw, hJ _ _ _ none hJs ⟨rfl, rfl, rfl, Nat.le_refl _, fun _ _ _ => rfl⟩ (fun r e => by cases e), hsz⟩
      obtain ⟨hc3, hb3, hJ3, hs3⟩ := pst
      replace hbox := (hc3 _).trans hbox
      replace c0 := (hc3 _).trans c0
      replace c1 := (hc3 _).trans c1
      clear hw3 c2 c3 hbw hJs hsz hc3
      have hbl : Bs < w3.heap.size := by have := hSl _ hSB; omega
      have hbl2 : b < w3.heap.size := by have := hSl _ hSb; omega
      apply wp_one
      · go_region_held3 (fun W' => W'.cell? ⟨Bs, 0, none⟩ = some (.slice (some ⟨b, off, none⟩) (m + 1) c) ∧ W'.cell? ⟨b, off + k * 2, none⟩ = some (.int .i64 x0) ∧ W'.cell? ⟨b, off + k * 2 + 1, none⟩ = some (.int .i64 y0))
        (first | exact ⟨hbox, c0, c1⟩ | exact ⟨(World.cell?_alloc_lt w3 _ ⟨Bs, 0, none⟩ hbl).trans hbox, (World.cell?_alloc_lt w3 _ ⟨b, off + k * 2, none⟩ hbl2).trans c0, (World.cell?_alloc_lt w3 _ ⟨b, off + k * 2 + 1, none⟩ hbl2).trans c1⟩)
        (first | (go_at_call 43; first | (refine (H1.out _).mono ?_; rintro e w' ⟨rfl, rfl⟩) | (refine (H2.out _).mono ?_; rintro e w' ⟨rfl, rfl⟩)) | (go_at_call 41; first | (refine (H3.out _).mono ?_; rintro e w' ⟨rfl, rfl⟩) | (refine (H4.out _).mono ?_; rintro e w' ⟨rfl, rfl⟩)))
        all_goals exact ⟨rfl, rfl, rfl⟩
      obtain ⟨F, hF⟩ : ∃ F, (if szW u < szW v then szW v else szW u) = F := ⟨_, rfl⟩
      rw [hF]
      rw [hF] at HMAX
      clear hF hbox c0 c1
      by_cases hu0 : u = 0
      · have t0 : (u != 0) = false := by simpa using hu0
        have hpr : fr = F := by rw [← HFR.out, if_neg (fun h => h.1 hu0)]; exact HMAX.out
        have HPR := Lib.hid hpr
        clear hpr hu0
        have hFr : fr = F := by exact HPR.out
        have hJ4 : J (uptoL f k) (w3.alloc (.cells #[.int .i64 x0, .int .i64 y0, .int .i64 (sg u), .int .i64 (sg v), .int .i64 F] 68)).drew :=
          hJ _ _ _ none hJ3 ⟨rfl, rfl, rfl, by simp, fun q hq _ => Below.heap_alloc w3 _ q hq⟩ (fun r e => by cases e)
        have hb4 : KeepB S W (w3.alloc (.cells #[.int .i64 x0, .int .i64 y0, .int .i64 (sg u), .int .i64 (sg v), .int .i64 F] 68)).drew := (hb3.alloc (fun q hq => by have := hSl q hq; omega) _).drew
        obtain ⟨fn, tmps, assign, body, hy, hR⟩ := hY _ (legW (f k) (f (k + 1))) _ hJ4 hlen
        rw [HLEG.out, hFr] at hy
        dsimp only [encLeg] at hy
        have HFr := Lib.hid hFr
        clear hFr
        gi_wp2_with (first | ((with_reducible refine And.intro ?_ ?_); exact (show Fence.wide.fn 41 from trivial)) | (gi_at_call 41; refine (callsIn_wide.2 (H3.out _)).mono ?_; rintro e w' ⟨rfl, rfl⟩) | (gi_at_call 41; refine (callsIn_wide.2 (H4.out _)).mono ?_; rintro e w' ⟨rfl, rfl⟩))
        refine hR.mono ?_
        rintro e W3 (⟨rfl, hJ5, hk5⟩ | ⟨rfl, hJx5⟩)
        · gi_wp2
          go_roundw
          case rel => exact ⟨k + 1, by omega, by simp, hb4.trans hk5, by rw [uptoL_succ]; exact hJ5, by have := hk5.1; simp at this; omega⟩
          case measure => simp [intOf]; omega
        · gi_wp2
          refine bodyPost_ret (results_none rfl _ _ _) rfl ?_
          exact ⟨⟨_, rfl⟩, .inr ⟨_, ⟨k + 1, by omega, (uptoL_succ _ _).symm⟩, hJx5⟩⟩
      · have t0 : (u != 0) = true := by simpa using hu0
        by_cases hv0 : v = 0
        · have t1 : (v != 0) = false := by simpa using hv0
          have hpr : fr = F := by rw [← HFR.out, if_neg (fun h => h.2.1 hv0)]; exact HMAX.out
          have HPR := Lib.hid hpr
          clear hpr hu0 hv0
          have hFr : fr = F := by exact HPR.out
          have hJ4 : J (uptoL f k) (w3.alloc (.cells #[.int .i64 x0, .int .i64 y0, .int .i64 (sg u), .int .i64 (sg v), .int .i64 F] 68)).drew :=
            hJ _ _ _ none hJ3 ⟨rfl, rfl, rfl, by simp, fun q hq _ => Below.heap_alloc w3 _ q hq⟩ (fun r e => by cases e)
          have hb4 : KeepB S W (w3.alloc (.cells #[.int .i64 x0, .int .i64 y0, .int .i64 (sg u), .int .i64 (sg v), .int .i64 F] 68)).drew := (hb3.alloc (fun q hq => by have := hSl q hq; omega) _).drew
          obtain ⟨fn, tmps, assign, body, hy, hR⟩ := hY _ (legW (f k) (f (k + 1))) _ hJ4 hlen
          rw [HLEG.out, hFr] at hy
          dsimp only [encLeg] at hy
          have HFr := Lib.hid hFr
          clear hFr
          gi_wp2_with (first | ((with_reducible refine And.intro ?_ ?_); exact (show Fence.wide.fn 41 from trivial)) | (gi_at_call 41; refine (callsIn_wide.2 (H3.out _)).mono ?_; rintro e w' ⟨rfl, rfl⟩) | (gi_at_call 41; refine (callsIn_wide.2 (H4.out _)).mono ?_; rintro e w' ⟨rfl, rfl⟩))
          refine hR.mono ?_
          rintro e W3 (⟨rfl, hJ5, hk5⟩ | ⟨rfl, hJx5⟩)
          · gi_wp2
            go_roundw
            case rel => exact ⟨k + 1, by omega, by simp, hb4.trans hk5, by rw [uptoL_succ]; exact hJ5, by have := hk5.1; simp at this; omega⟩
            case measure => simp [intOf]; omega
          · gi_wp2
            refine bodyPost_ret (results_none rfl _ _ _) rfl ?_
            exact ⟨⟨_, rfl⟩, .inr ⟨_, ⟨k + 1, by omega, (uptoL_succ _ _).symm⟩, hJx5⟩⟩
        · have t1 : (v != 0) = true := by simpa using hv0
          by_cases hs0 : szW u = szW v
          · have t2 : (szW u != szW v) = false := by simpa using hs0
            have hpr : fr = F := by rw [← HFR.out, if_neg (fun h => h.2.2 hs0)]; exact HMAX.out
            have HPR := Lib.hid hpr
            clear hpr hu0 hv0 hs0
            have hFr : fr = F := by exact HPR.out
            have hJ4 : J (uptoL f k) (w3.alloc (.cells #[.int .i64 x0, .int .i64 y0, .int .i64 (sg u), .int .i64 (sg v), .int .i64 F] 68)).drew :=
              hJ _ _ _ none hJ3 ⟨rfl, rfl, rfl, by simp, fun q hq _ => Below.heap_alloc w3 _ q hq⟩ (fun r e => by cases e)
            have hb4 : KeepB S W (w3.alloc (.cells #[.int .i64 x0, .int .i64 y0, .int .i64 (sg u), .int .i64 (sg v), .int .i64 F] 68)).drew := (hb3.alloc (fun q hq => by have := hSl q hq; omega) _).drew
            obtain ⟨fn, tmps, assign, body, hy, hR⟩ := hY _ (legW (f k) (f (k + 1))) _ hJ4 hlen
            rw [HLEG.out, hFr] at hy
            dsimp only [encLeg] at hy
            have HFr := Lib.hid hFr
            clear hFr
            gi_wp2_with (first | ((with_reducible refine And.intro ?_ ?_); exact (show Fence.wide.fn 41 from trivial)) | (gi_at_call 41; refine (callsIn_wide.2 (H3.out _)).mono ?_; rintro e w' ⟨rfl, rfl⟩) | (gi_at_call 41; refine (callsIn_wide.2 (H4.out _)).mono ?_; rintro e w' ⟨rfl, rfl⟩))
            refine hR.mono ?_
            rintro e W3 (⟨rfl, hJ5, hk5⟩ | ⟨rfl, hJx5⟩)
            · gi_wp2
              go_roundw
              case rel => exact ⟨k + 1, by omega, by simp, hb4.trans hk5, by rw [uptoL_succ]; exact hJ5, by have := hk5.1; simp at this; omega⟩
              case measure => simp [intOf]; omega
            · gi_wp2
              refine bodyPost_ret (results_none rfl _ _ _) rfl ?_
              exact ⟨⟨_, rfl⟩, .inr ⟨_, ⟨k + 1, by omega, (uptoL_succ _ _).symm⟩, hJx5⟩⟩
          · have t2 : (szW u != szW v) = true := by simpa using hs0
            have hpr : fr = 0 := by rw [← HFR.out, if_pos ⟨hu0, hv0, hs0⟩]
            have HPR := Lib.hid hpr
            clear hpr hu0 hv0 hs0
            have hFr : fr = 0 := by exact HPR.out
            have hJ4 : J (uptoL f k) (w3.alloc (.cells #[.int .i64 x0, .int .i64 y0, .int .i64 (sg u), .int .i64 (sg v), .int .i64 0] 68)).drew :=
              hJ _ _ _ none hJ3 ⟨rfl, rfl, rfl, by simp, fun q hq _ => Below.heap_alloc w3 _ q hq⟩ (fun r e => by cases e)
            have hb4 : KeepB S W (w3.alloc (.cells #[.int .i64 x0, .int .i64 y0, .int .i64 (sg u), .int .i64 (sg v), .int .i64 0] 68)).drew := (hb3.alloc (fun q hq => by have := hSl q hq; omega) _).drew
            obtain ⟨fn, tmps, assign, body, hy, hR⟩ := hY _ (legW (f k) (f (k + 1))) _ hJ4 hlen
            rw [HLEG.out, hFr] at hy
            dsimp only [encLeg] at hy
            have HFr := Lib.hid hFr
            clear hFr
            gi_wp2_with (first | ((with_reducible refine And.intro ?_ ?_); exact (show Fence.wide.fn 41 from trivial)) | (gi_at_call 41; refine (callsIn_wide.2 (H3.out _)).mono ?_; rintro e w' ⟨rfl, rfl⟩) | (gi_at_call 41; refine (callsIn_wide.2 (H4.out _)).mono ?_; rintro e w' ⟨rfl, rfl⟩))
            refine hR.mono ?_
            rintro e W3 (⟨rfl, hJ5, hk5⟩ | ⟨rfl, hJx5⟩)
            · gi_wp2
              go_roundw
              case rel => exact ⟨k + 1, by omega, by simp, hb4.trans hk5, by rw [uptoL_succ]; exact hJ5, by have := hk5.1; simp at this; omega⟩
              case measure => simp [intOf]; omega
            · gi_wp2
              refine bodyPost_ret (results_none rfl _ _ _) rfl ?_
              exact ⟨⟨_, rfl⟩, .inr ⟨_, ⟨k + 1, by omega, (uptoL_succ _ _).symm⟩, hJx5⟩⟩
    · obtain rfl : k = m := by omega
      gi_wp2
      go_end0
      exact ⟨⟨_, rfl⟩, .inl ⟨_, rfl, hJs⟩⟩

/-- the iterator's contract, for the law of a range over a function -/
theorem legs_stops (n : Nat) (hn : 1 ≤ n) (Bs b off m c : Nat) (S : Nat → Prop) (hSb : S b) (hSB : S Bs) (f : Nat → Int × Int) (hm : 1 ≤ m) (hmc : m + 1 ≤ c) (hcm : c ≤ 9223372036854775807) (w : World) (hSl : ∀ q, S q → q < w.heap.size)
    (hBs : w.cell? ⟨Bs, 0, none⟩ = some (.slice (some ⟨b, off, none⟩) (m + 1) c))
    (hc : ∀ k, k ≤ m → w.cell? ⟨b, off + k * 2, none⟩ = some (.int .i64 (f k).1) ∧ w.cell? ⟨b, off + k * 2 + 1, none⟩ = some (.int .i64 (f k).2)) :
    SeqStopsK Fence.wide n Tryd.prog 42 #[.pointer (some ⟨Bs, 0, none⟩)] (fun x => #[encLeg x]) (KeepB S) (fun ys => ys = uptoL f m) (fun pre => ∃ k, k ≤ m ∧ pre = uptoL f k) m w := by
  intro l J Jx W hW hJ hJx hY h0
  exact legs1_core n hn l Bs b off m c S hSb hSB f hm hmc hcm J Jx W (fun q hq => Nat.lt_of_lt_of_le (hSl q hq) hW.size) hJ hJx hY ((hW.cell (p := ⟨Bs, 0, none⟩) (hSl _ hSB)).trans hBs)
    (fun k hk => ⟨(hW.cell (p := ⟨b, off + k * 2, none⟩) (hSl _ hSb)).trans (hc k hk).1, (hW.cell (p := ⟨b, off + k * 2 + 1, none⟩) (hSl _ hSb)).trans (hc k hk).2⟩) h0
end Go.Proofs.YtnbdnnbeiohmgaaDoor
/- CheckTrack. -/
namespace Go.Proofs.YtnbdnnbeiohmgaaDoor
open Go.RowKit Go.Shelf
open Go.Proofs.Rings (Leg sg)
attribute [local go_sem] Oper.semAt_some

theorem cell_new_l (W : World) (v : Value) (t : TypeId) : (W.alloc (.cells #[v] t)).cell? ⟨W.heap.size, 0, none⟩ = some v ∧ (W.alloc (.cells #[v] t)).frozen? ⟨W.heap.size, 0, none⟩ = false := by
  have h := World.alloc_heap_new W (.cells #[v] t)
  exact ⟨by simp only [World.cell?, h]; rfl, by simp only [World.frozen?, h]; rfl⟩
theorem cell_alloc_l {W : World} {a : Addr} {v : Value} (o : Obj) (h : W.cell? a = some v) : (W.alloc o).cell? a = some v := cell_kept h (World.grownBy_alloc W o none) (fun r e => by cases e)
theorem frozen_alloc_l {W : World} {a : Addr} {v : Value} (o : Obj) (h : W.cell? a = some v) (hf : W.frozen? a = false) : (W.alloc o).frozen? a = false := (frozen_kept h (World.grownBy_alloc W o none) (fun r e => by cases e)).trans hf
theorem ownFrom_size {β : Type} (B n : Nat) : OwnFrom B (fun (_ : β) W => n ≤ W.heap.size) := fun _ _ _ _ hs hg _ => Nat.le_trans hs hg.size

def checkB (l : List (Int × Int)) : Bool := withinB l.length 2 1024 && l.all okS && (legsW l).all fun x => x.far != 0

/-- what CheckTrack answers -/
def checkV (l : List (Int × Int)) : Int := if checkB l then 0 else 2
theorem checkV_false {l : List (Int × Int)} (h : checkB l = false) : checkV l = 2 := by simp [checkV, h]
theorem checkV_true {l : List (Int × Int)} (h : checkB l = true) : checkV l = 0 := by simp [checkV, h]

theorem legsW_upto (l : List (Int × Int)) (m : Nat) (h : l.length = m + 1) : legsW l = uptoL (fun i => l.getD i default) m := by
  apply List.ext_getElem?
  intro i
  by_cases hi : i < m
  · have e := legsW_get l i (l.getD i default) (l.getD (i + 1) default) (by simp [List.getD, show i < l.length by omega]) (by simp [List.getD, show i + 1 < l.length by omega])
    rw [e]
    simp [uptoL, hi]
  · rw [List.getElem?_eq_none (by rw [legsW_length]; omega), List.getElem?_eq_none (by rw [uptoL_length]; omega)]

set_option maxRecDepth 100000 in
set_option maxHeartbeats 2000000 in
theorem check_tk (v : Value) (l : List (Int × Int)) (w : World) (h : Spots w v l) :
    Calls Tryd.prog 9 #[v] w fun e w' => e = .returned (.int .i64 (checkV l)) ∧ Below w.heap.size w w' := by
  refine (callsIn_wide (n := 5)).1 ?_
  have hval := fun (w' : World) (hb : Below w.heap.size w w') => valid_tk v l w' (h.below hb)
  obtain ⟨A, c, rfl, h1, h2, h3⟩ := h
  unfold maxLen at h2
  have HV := Lib.hid hval
  clear hval
  cases hw : withinB l.length 2 1024 with
  | false =>
    have hfin : checkB l = false := by simp [checkB, hw]
    have HF := Lib.hid hfin
    have HW := Lib.hid hw
    clear hfin hw h3
    refine callsIn_of_wp_marks Tryd.func9 rfl trivial ?_ rfl
    simp only [Tryd.ntmps9, List.size_toArray, List.length_cons, List.length_nil, Nat.reduceAdd, Nat.reduceSub, Array.replicate_succ, Array.replicate_zero, List.push_toArray, List.append_toArray, List.nil_append, List.cons_append]
    refine wpIn_wide.2 ?_
    go_wp2_with fail
    refine (within_tk _ _ _ _).mono ?_
    rintro e w' ⟨rfl, rfl⟩
    rw [HW.out]
    go_wp2_with fail
    refine ⟨.int .i64 2, by simp [results, Tryd.results9, go_sem], ?_, ?_⟩
    · rw [checkV_false HF.out]
    · exact (Below.refl _ _).alloc (Nat.le_refl _) _
  | true =>
    have hb1 : (2 : Int) ≤ l.length ∧ (l.length : Int) ≤ 1024 := by simpa [withinB] using hw
    obtain ⟨m, hm, hm1, hm2⟩ : ∃ m, l.length = m + 1 ∧ 1 ≤ m ∧ m ≤ 1023 := ⟨l.length - 1, by omega, by omega, by omega⟩
    have hup := legsW_upto l m hm
    have hlm : ∀ k, k ≤ m → k < l.length := fun k hk => by omega
    have HM := Lib.hid hm
    have HLM := Lib.hid hlm
    clear hm hlm
    cases hok : l.all okS with
    | false =>
      have hfin : checkB l = false := by simp [checkB, hok]
      have HF := Lib.hid hfin
      have HW := Lib.hid hw
      have HO := Lib.hid hok
      clear hfin hw h3 hup hok
      refine callsIn_of_wp_marks Tryd.func9 rfl trivial ?_ rfl
      simp only [Tryd.ntmps9, List.size_toArray, List.length_cons, List.length_nil, Nat.reduceAdd, Nat.reduceSub, Array.replicate_succ, Array.replicate_zero, List.push_toArray, List.append_toArray, List.nil_append, List.cons_append]
      refine wpIn_wide.2 ?_
      go_wp2_with fail
      refine (within_tk _ _ _ _).mono ?_
      rintro e w' ⟨rfl, rfl⟩
      rw [HW.out]
      go_wp2_with fail
      refine (HV.out _ ((Below.refl _ _).alloc (Nat.le_refl _) _)).mono ?_
      rintro e w1 ⟨rfl, hb⟩
      rw [HO.out]
      have hc0 := hb.cell (p := ⟨w.heap.size, 0, none⟩) (by simp)
      have hf0 := hb.frozen (p := ⟨w.heap.size, 0, none⟩) (by simp)
      have hz := hb.size
      simp [go_sem] at hc0 hf0 hz
      have hbb : Below w.heap.size w w1 := ((Below.refl w.heap.size w).alloc (Nat.le_refl _) _).trans (hb.mono (by simp))
      clear hb
      go_wp2_with fail
      refine ⟨.int .i64 2, by simp [results, Tryd.results9, go_sem, hc0], ?_, ?_⟩
      · rw [checkV_false HF.out]
      · exact hbb.setCell (p := ⟨w.heap.size, 0, none⟩) (Nat.le_refl _) _
    | true =>
      obtain ⟨b, off, rfl, hbl, hc⟩ := h3 (by omega)
      have hcells : ∀ k, k ≤ m → w.cell? ⟨b, off + k * 2, none⟩ = some (.int .i64 (l.getD k default).1) ∧ w.cell? ⟨b, off + k * 2 + 1, none⟩ = some (.int .i64 (l.getD k default).2) := fun k hk =>
        hc k _ (by simp [List.getD, HLM.out k hk])
      have HC := Lib.hid hcells
      have HW := Lib.hid hw
      have HO := Lib.hid hok
      have HU := Lib.hid hup
      clear hw h3 hup hok hc hcells
      refine callsIn_of_wp_marks Tryd.func9 rfl trivial ?_ rfl
      simp only [Tryd.ntmps9, List.size_toArray, List.length_cons, List.length_nil, Nat.reduceAdd, Nat.reduceSub, Array.replicate_succ, Array.replicate_zero, List.push_toArray, List.append_toArray, List.nil_append, List.cons_append]
      refine wpIn_wide.2 ?_
      go_wp2_with fail
      refine (within_tk _ _ _ _).mono ?_
      rintro e w' ⟨rfl, rfl⟩
      rw [HW.out]
      go_wp2_with fail
      refine (HV.out _ ((Below.refl _ _).alloc (Nat.le_refl _) _)).mono ?_
      rintro e w1 ⟨rfl, hb⟩
      rw [HO.out]
      have hc0 := hb.cell (p := ⟨w.heap.size, 0, none⟩) (by simp)
      have hf0 := hb.frozen (p := ⟨w.heap.size, 0, none⟩) (by simp)
      have hz := hb.size
      simp [go_sem] at hc0 hf0 hz
      have hbb : Below w.heap.size w w1 := ((Below.refl w.heap.size w).alloc (Nat.le_refl _) _).trans (hb.mono (by simp))
      clear hb
      go_wp2_with fail
      refine (legs_tk _ _ _ _).mono ?_
      rintro e w2 ⟨rfl, rfl⟩
      go_wp2_with fail
      refine (wpIn_wide (n := 5)).1 ?_
      rw [HM.out]
      obtain ⟨W0, hW0⟩ : ∃ W0, w1.alloc (.cells #[.slice (some ⟨b, off, none⟩) (m + 1) c] 27) = W0 := ⟨_, rfl⟩
      rw [hW0]
      have pW : W0.heap.size = w1.heap.size + 1 ∧ W0.cell? ⟨w1.heap.size, 0, none⟩ = some (.slice (some ⟨b, off, none⟩) (m + 1) c) ∧ W0.cell? ⟨w.heap.size, 0, none⟩ = some (.int .i64 0) ∧
          W0.frozen? ⟨w.heap.size, 0, none⟩ = false ∧ Below w.heap.size w W0 := by
        subst hW0
        refine ⟨by simp, (cell_new_l w1 _ _).1, (World.cell?_alloc_lt w1 _ ⟨w.heap.size, 0, none⟩ (by simp; omega)).trans hc0, ?_, hbb.alloc (by omega) _⟩
        exact (frozen_alloc_l _ hc0 hf0)
      obtain ⟨q1, q2, q3, q4, q5⟩ := pW
      clear hW0 hc0 hf0 hbb
      refine wpIn_rangeFunc_ownH rfl (by omega) (gf := 42) (lb := #[.pointer (some ⟨w1.heap.size, 0, none⟩)]) rfl trivial (enters_of Tryd.func42 (by kernel_rfl) rfl)
        (legs_stops 4 (by omega) w1.heap.size b off m c (fun q => q = b ∨ q = w1.heap.size) (.inl rfl) (.inr rfl) (fun i => l.getD i default) hm1 (by have := HM.out; omega) (by omega) W0 (fun q hq => by rcases hq with rfl | rfl <;> omega) q2
          (fun k hk => ⟨(q5.cell (p := ⟨b, off + k * 2, none⟩) hbl).trans (HC.out k hk).1, (q5.cell (p := ⟨b, off + k * 2 + 1, none⟩) hbl).trans (HC.out k hk).2⟩))
        (fun h k => KeepB.trans h k) (fun W l' o o' hl _ _ _ => KeepB.putObj (n := W0.heap.size) (fun q hq => by rcases hq with rfl | rfl <;> omega) W l' o' hl) (Below.refl _ _) (fun _ => rfl)
        (fun pre W => ((∀ x ∈ pre, x.far ≠ 0) ∧ W.cell? ⟨w.heap.size, 0, none⟩ = some (.int .i64 0) ∧ W.frozen? ⟨w.heap.size, 0, none⟩ = false) ∧ Below w.heap.size w W ∧ W0.heap.size ≤ W.heap.size)
        (fun c pre W => ((c = .ret ∧ ∃ x ∈ pre, x.far = 0) ∧ W.cell? ⟨w.heap.size, 0, none⟩ = some (.int .i64 2)) ∧ Below w.heap.size w W)
        (OwnFrom.and (Own.from (fun s A B row hs hg hr => ⟨hs.1, cell_kept hs.2.1 hg hr, (frozen_kept hs.2.1 hg hr).trans hs.2.2⟩) _) (OwnFrom.and (ownFrom_below (Nat.le_refl _) (by omega)) (ownFrom_size _ _)))
        (fun c => OwnFrom.and (Own.from (fun s A B row hs hg hr => ⟨hs.1, cell_kept hs.2 hg hr⟩) _) (ownFrom_below (Nat.le_refl _) (by omega)))
        ⟨⟨by simp, q3, q4⟩, q5, Nat.le_refl _⟩
        (fun x a' W => ∃ Bx, W.cell? ⟨Bx, 4, none⟩ = some (.int .i64 x.far) ∧ a' = { tmps := #[.slice (some ⟨b, off, none⟩) (m + 1) c, undef, .pointer (some ⟨w.heap.size, 0, none⟩), .pointer (some ⟨Bx, 0, none⟩), .slice (some ⟨b, off, none⟩) (m + 1) c, .int .i64 ↑(m + 1), .bool true, .bool false, .bool false, .slice (some ⟨b, off, none⟩) (m + 1) c, .bool true, .bool false, .bool false, .slice (some ⟨b, off, none⟩) (m + 1) c, .func (.func 42) #[] #[.pointer (some ⟨w1.heap.size, 0, none⟩)], encLeg x, undef, undef, undef], defers := [] })
        (fun x a' => Own.from (fun s A B row hs hg hr => by obtain ⟨Bx, h, e⟩ := hs; exact ⟨Bx, cell_kept h hg hr, e⟩) _)
        ?assign ?body ?done ?stop
      case assign =>
        rintro l' pre x W K ⟨⟨hp, hcr, hfr⟩, hB, hS0⟩ hK
        obtain ⟨fx, fy, wx, wy, far⟩ := x
        dsimp only [encLeg]
        have hK' := hK { tmps := #[.slice (some ⟨b, off, none⟩) (m + 1) c, undef, .pointer (some ⟨w.heap.size, 0, none⟩), .pointer (some ⟨W.heap.size, 0, none⟩), .slice (some ⟨b, off, none⟩) (m + 1) c, .int .i64 ↑(m + 1), .bool true, .bool false, .bool false, .slice (some ⟨b, off, none⟩) (m + 1) c, .bool true, .bool false, .bool false, .slice (some ⟨b, off, none⟩) (m + 1) c, .func (.func 42) #[] #[.pointer (some ⟨w1.heap.size, 0, none⟩)], .agg #[.int .i64 fx, .int .i64 fy, .int .i64 wx, .int .i64 wy, .int .i64 far], undef, undef, undef], defers := [] }
          (W.alloc (.cells #[.int .i64 fx, .int .i64 fy, .int .i64 wx, .int .i64 wy, .int .i64 far] 68)) ((KeepsOthers.alloc _ _).from _) (KeepB.below ((Below.refl _ _).alloc (Nat.le_refl _) _) (fun q hq => by rcases hq with rfl | rfl <;> omega))
          ⟨⟨hp, cell_alloc_l _ hcr, frozen_alloc_l _ hcr hfr⟩, hB.alloc hB.size _, by simp; omega⟩ ⟨W.heap.size, by simp [go_sem], rfl⟩
        have HK := Lib.hid hK'
        clear hK hK'
        gi_wp2
        exact HK.out
      case body =>
        rintro l' pre x a' W hl ⟨r, hr⟩ ⟨⟨hp, hcr, hfr⟩, hB, hS0⟩ ⟨Bx, hx, rfl⟩ hlt
        by_cases hz0 : x.far = 0
        · rw [hz0] at hx
          have HZ := Lib.hid hz0
          clear hz0
          gi_wp2
          exact ⟨(KeepsOthers.setCell _ _ _).from _, ⟨⟨rfl, x, List.mem_append.2 (.inr (by simp)), HZ.out⟩, World.cell?_setCell_same' _ _ _ (by rw [hcr]; rfl)⟩, hB.setCell (p := ⟨w.heap.size, 0, none⟩) (Nat.le_refl _) _⟩
        · have t0 : (x.far == 0) = false := by simpa using hz0
          have HZ := Lib.hid hz0
          clear hz0
          gi_wp2
          exact ⟨KeepsFrom.refl _ _, KeepB.refl _ _, ⟨fun y hy => (List.mem_append.1 hy).elim (hp y) (fun e => by simp at e; subst e; exact HZ.out), hcr, hfr⟩, hB, hS0⟩
      case done =>
        rintro D ys W hD rfl ⟨⟨hne, hcr, hfr⟩, hB, hS0⟩ hK
        have hfin : checkB l = true := by
          simp only [checkB, HW.out, HO.out, HU.out, Bool.true_and, List.all_eq_true]
          exact fun x hx => by simpa using hne x hx
        have HF := Lib.hid hfin
        clear hfin hne
        go_wp2_with fail
        have hK' := (KeepsOthers.setCell W ⟨w.heap.size, 0, none⟩ (.int .i64 0)).same D _ hK rfl
        refine ⟨by simp, .inl ⟨_, _, rfl, run_takeDeferred hK', ?_⟩⟩
        have hc5 := cell_kept (World.cell?_setCell_same' W ⟨w.heap.size, 0, none⟩ (.int .i64 0) (by rw [hcr]; rfl)) (grownBy_putObj' _ D (.deferred none)) (fun r e => by cases e; exact ⟨_, hK', rfl⟩)
        refine ⟨.int .i64 0, by simp [results, Tryd.results9, go_sem, hc5], by rw [checkV_true HF.out], (hB.setCell (p := ⟨w.heap.size, 0, none⟩) (Nat.le_refl _) _).trans (belowK_b (w := w) (Nat.le_refl _) _ D _ _ (by omega) hK' rfl rfl)⟩
      case stop =>
        rintro D c' pre W hD ⟨k, hk, rfl⟩ ⟨⟨⟨rfl, x, hx, hz0⟩, hcr⟩, hB⟩ hK
        have hfin : checkB l = false := by
          have hmem : x ∈ legsW l := by
            rw [HU.out]
            simp only [uptoL, List.mem_map, List.mem_range] at hx ⊢
            obtain ⟨i, hi, e⟩ := hx
            exact ⟨i, by omega, e⟩
          have : (legsW l).all (fun x => x.far != 0) = false := by
            rw [List.all_eq_false]
            exact ⟨x, hmem, by simp [hz0]⟩
          simp only [checkB, this, Bool.and_false]
        have HF := Lib.hid hfin
        clear hfin hx hz0
        refine wpIn_wide.2 ?_
        go_wp2_with fail
        refine ⟨by simp, .inl ⟨_, _, rfl, run_takeDeferred hK, ?_⟩⟩
        have hc5 := cell_kept hcr (grownBy_putObj' _ D (.deferred none)) (fun r e => by cases e; exact ⟨_, hK, rfl⟩)
        refine ⟨.int .i64 2, by simp [results, Tryd.results9, go_sem, hc5], by rw [checkV_false HF.out], hB.trans (belowK_b (w := w) (Nat.le_refl _) W D _ _ (by omega) hK rfl rfl)⟩
end Go.Proofs.YtnbdnnbeiohmgaaDoor
/- Near. -/
namespace Go.Proofs.YtnbdnnbeiohmgaaDoor
open Go.RowKit Go.Shelf
open Go.Proofs.Rings (Leg sg)
attribute [local go_sem] Oper.semAt_some

def nearOK (l : List (Int × Int)) (s : Int × Int) (wd : Int) : Bool := checkB l && okS s && withinB wd 0 1048576
/-- what Near answers: whether, and the error -/
def nearB (l : List (Int × Int)) (s : Int × Int) (wd : Int) : Bool := nearOK l s wd && (legsW l).any fun x => nearW x s wd
def nearE (l : List (Int × Int)) (s : Int × Int) (wd : Int) : Int := if nearOK l s wd then 0 else 2
theorem near_no {l : List (Int × Int)} {s : Int × Int} {wd : Int} (h : nearOK l s wd = false) : nearB l s wd = false ∧ nearE l s wd = 2 := by simp [nearB, nearE, h]

theorem Spots_one (w : World) (x y : Int) (t : TypeId) : Spots (w.alloc (.cells #[.int .i64 x, .int .i64 y] t)) (.slice (some ⟨w.heap.size, 0, none⟩) 1 1) [(x, y)] := by
  refine ⟨_, 1, rfl, Nat.le_refl _, by unfold maxLen; omega, fun _ => ⟨w.heap.size, 0, rfl, by simp, fun k s hk => ?_⟩⟩
  have : k = 0 := by
    rcases Nat.eq_zero_or_pos k with h | h
    · exact h
    · rw [List.getElem?_eq_none (by simp <;> omega)] at hk; cases hk
  subst this
  simp at hk
  subst hk
  simp [go_sem]

set_option maxRecDepth 100000 in
set_option maxHeartbeats 4000000 in
theorem near_all (v : Value) (l : List (Int × Int)) (x y wd : Int) (w : World) (h : Spots w v l) :
    Calls Tryd.prog 10 #[v, .agg #[.int .i64 x, .int .i64 y], .int .i64 wd] w fun e w' => e = .returned (.tuple #[.bool (nearB l (x, y) wd), .int .i64 (nearE l (x, y) wd)]) ∧ Below w.heap.size w w' := by
  refine (callsIn_wide (n := 5)).1 ?_
  have hchk := fun (w' : World) (hb : Below w.heap.size w w') => check_tk v l w' (h.below hb)
  obtain ⟨A, c, rfl, h1, h2, h3⟩ := h
  unfold maxLen at h2
  have HV := Lib.hid hchk
  clear hchk
  have hbe : Below w.heap.size w ((((w.alloc (.cells #[.int .i64 x, .int .i64 y] 23)).alloc (.cells #[.int .i64 wd] 3)).alloc (.cells #[.bool false] 4)).alloc (.cells #[.int .i64 0] 28)) :=
    ((((Below.refl _ _).alloc (Nat.le_refl _) _).alloc (by simp) _).alloc (by simp <;> omega) _).alloc (by simp <;> omega) _
  have HBE := Lib.hid hbe
  clear hbe
  cases hc : checkB l with
  | false =>
    have hfin := near_no (l := l) (s := (x, y)) (wd := wd) (by simp [nearOK, hc])
    have HF := Lib.hid hfin
    have hcv := checkV_false hc
    have HC := Lib.hid hcv
    clear hfin hc hcv h3
    refine callsIn_of_wp_marks Tryd.func10 rfl trivial ?_ rfl
    simp only [Tryd.ntmps10, List.size_toArray, List.length_cons, List.length_nil, Nat.reduceAdd, Nat.reduceSub, Array.replicate_succ, Array.replicate_zero, List.push_toArray, List.append_toArray, List.nil_append, List.cons_append]
    refine wpIn_wide.2 ?_
    go_wp2_with fail
    refine (HV.out _ HBE.out).mono ?_
    rintro e w1 ⟨rfl, hb⟩
    rw [HC.out]
    have hc4 := hb.cell (p := ⟨w.heap.size, 0, none⟩) (by simp <;> omega)
    have hc4' := hb.cell (p := ⟨w.heap.size, 1, none⟩) (by simp <;> omega)
    have hc5 := hb.cell (p := ⟨w.heap.size + 1, 0, none⟩) (by simp <;> omega)
    have hc6 := hb.cell (p := ⟨w.heap.size + 1 + 1, 0, none⟩) (by simp)
    have hf6 := hb.frozen (p := ⟨w.heap.size + 1 + 1, 0, none⟩) (by simp)
    have hc7 := hb.cell (p := ⟨w.heap.size + 1 + 1 + 1, 0, none⟩) (by simp)
    have hf7 := hb.frozen (p := ⟨w.heap.size + 1 + 1 + 1, 0, none⟩) (by simp)
    have hz := hb.size
    simp [go_sem] at hc4 hc4' hc5 hc6 hf6 hc7 hf7 hz
    have hbb : Below w.heap.size w w1 := HBE.out.trans (hb.mono (by simp <;> omega))
    clear hb
    go_wp2_with fail
    refine ⟨.tuple #[.bool false, .int .i64 2], by simp [results, Tryd.results10, go_sem, hc6, hc7, hf6, hf7], by rw [HF.out.1, HF.out.2], ?_⟩
    exact (hbb.setCell (p := ⟨w.heap.size + 1 + 1, 0, none⟩) (by simp <;> omega) _).setCell (p := ⟨w.heap.size + 1 + 1 + 1, 0, none⟩) (by simp <;> omega) _
  | true =>
    have hcv := checkV_true hc
    have HC := Lib.hid hcv
    clear hcv
    cases ho : okS (x, y) with
    | false =>
      have hfin := near_no (l := l) (s := (x, y)) (wd := wd) (by simp [nearOK, ho])
      have HF := Lib.hid hfin
      have hov : [(x, y)].all okS = false := by simp [ho]
      have HO := Lib.hid hov
      clear hfin hc hov ho h3
      refine callsIn_of_wp_marks Tryd.func10 rfl trivial ?_ rfl
      simp only [Tryd.ntmps10, List.size_toArray, List.length_cons, List.length_nil, Nat.reduceAdd, Nat.reduceSub, Array.replicate_succ, Array.replicate_zero, List.push_toArray, List.append_toArray, List.nil_append, List.cons_append]
      refine wpIn_wide.2 ?_
      go_wp2_with fail
      refine (HV.out _ HBE.out).mono ?_
      rintro e w1 ⟨rfl, hb⟩
      rw [HC.out]
      have hc4 := hb.cell (p := ⟨w.heap.size, 0, none⟩) (by simp <;> omega)
      have hc4' := hb.cell (p := ⟨w.heap.size, 1, none⟩) (by simp <;> omega)
      have hc5 := hb.cell (p := ⟨w.heap.size + 1, 0, none⟩) (by simp <;> omega)
      have hc6 := hb.cell (p := ⟨w.heap.size + 1 + 1, 0, none⟩) (by simp)
      have hf6 := hb.frozen (p := ⟨w.heap.size + 1 + 1, 0, none⟩) (by simp)
      have hc7 := hb.cell (p := ⟨w.heap.size + 1 + 1 + 1, 0, none⟩) (by simp)
      have hf7 := hb.frozen (p := ⟨w.heap.size + 1 + 1 + 1, 0, none⟩) (by simp)
      have hz := hb.size
      simp [go_sem] at hc4 hc4' hc5 hc6 hf6 hc7 hf7 hz
      have hbb : Below w.heap.size w w1 := HBE.out.trans (hb.mono (by simp <;> omega))
      clear hb
      go_wp2_with fail
      refine (valid_tk _ [(x, y)] _ (Spots_one _ _ _ _)).mono ?_
      rintro e w2 ⟨rfl, hb⟩
      rw [HO.out]
      replace hc4 := (hb.cell (p := ⟨w.heap.size, 0, none⟩) (by simp <;> omega)).trans (cell_alloc_l _ hc4)
      replace hc4' := (hb.cell (p := ⟨w.heap.size, 1, none⟩) (by simp <;> omega)).trans (cell_alloc_l _ hc4')
      replace hc5 := (hb.cell (p := ⟨w.heap.size + 1, 0, none⟩) (by simp <;> omega)).trans (cell_alloc_l _ hc5)
      replace hf6 := (hb.frozen (p := ⟨w.heap.size + 1 + 1, 0, none⟩) (by simp <;> omega)).trans (frozen_alloc_l _ hc6 hf6)
      replace hc6 := (hb.cell (p := ⟨w.heap.size + 1 + 1, 0, none⟩) (by simp <;> omega)).trans (cell_alloc_l _ hc6)
      replace hf7 := (hb.frozen (p := ⟨w.heap.size + 1 + 1 + 1, 0, none⟩) (by simp <;> omega)).trans (frozen_alloc_l _ hc7 hf7)
      replace hc7 := (hb.cell (p := ⟨w.heap.size + 1 + 1 + 1, 0, none⟩) (by simp <;> omega)).trans (cell_alloc_l _ hc7)
      have hz2 := hb.size
      simp at hz2
      replace hbb : Below w.heap.size w w2 := (hbb.alloc (by omega) _).trans (hb.mono (by simp <;> omega))
      replace hz : w.heap.size + 1 + 1 + 1 + 1 ≤ w2.heap.size := by omega
      clear hb hz2
      go_wp2_with fail
      refine ⟨.tuple #[.bool false, .int .i64 2], by simp [results, Tryd.results10, go_sem, hc6, hc7, hf6, hf7], by rw [HF.out.1, HF.out.2], ?_⟩
      exact (hbb.setCell (p := ⟨w.heap.size + 1 + 1, 0, none⟩) (by simp <;> omega) _).setCell (p := ⟨w.heap.size + 1 + 1 + 1, 0, none⟩) (by simp <;> omega) _
    | true =>
      have hov : [(x, y)].all okS = true := by simp [ho]
      have HO := Lib.hid hov
      cases hw : withinB wd 0 1048576 with
      | false =>
        have hfin := near_no (l := l) (s := (x, y)) (wd := wd) (by simp [nearOK, hw])
        have HF := Lib.hid hfin
        have HW := Lib.hid hw
        clear hfin hc hov ho hw h3
        refine callsIn_of_wp_marks Tryd.func10 rfl trivial ?_ rfl
        simp only [Tryd.ntmps10, List.size_toArray, List.length_cons, List.length_nil, Nat.reduceAdd, Nat.reduceSub, Array.replicate_succ, Array.replicate_zero, List.push_toArray, List.append_toArray, List.nil_append, List.cons_append]
        refine wpIn_wide.2 ?_
        go_wp2_with fail
        refine (HV.out _ HBE.out).mono ?_
        rintro e w1 ⟨rfl, hb⟩
        rw [HC.out]
        have hc4 := hb.cell (p := ⟨w.heap.size, 0, none⟩) (by simp <;> omega)
        have hc4' := hb.cell (p := ⟨w.heap.size, 1, none⟩) (by simp <;> omega)
        have hc5 := hb.cell (p := ⟨w.heap.size + 1, 0, none⟩) (by simp <;> omega)
        have hc6 := hb.cell (p := ⟨w.heap.size + 1 + 1, 0, none⟩) (by simp)
        have hf6 := hb.frozen (p := ⟨w.heap.size + 1 + 1, 0, none⟩) (by simp)
        have hc7 := hb.cell (p := ⟨w.heap.size + 1 + 1 + 1, 0, none⟩) (by simp)
        have hf7 := hb.frozen (p := ⟨w.heap.size + 1 + 1 + 1, 0, none⟩) (by simp)
        have hz := hb.size
        simp [go_sem] at hc4 hc4' hc5 hc6 hf6 hc7 hf7 hz
        have hbb : Below w.heap.size w w1 := HBE.out.trans (hb.mono (by simp <;> omega))
        clear hb
        go_wp2_with fail
        refine (valid_tk _ [(x, y)] _ (Spots_one _ _ _ _)).mono ?_
        rintro e w2 ⟨rfl, hb⟩
        rw [HO.out]
        replace hc4 := (hb.cell (p := ⟨w.heap.size, 0, none⟩) (by simp <;> omega)).trans (cell_alloc_l _ hc4)
        replace hc4' := (hb.cell (p := ⟨w.heap.size, 1, none⟩) (by simp <;> omega)).trans (cell_alloc_l _ hc4')
        replace hc5 := (hb.cell (p := ⟨w.heap.size + 1, 0, none⟩) (by simp <;> omega)).trans (cell_alloc_l _ hc5)
        replace hf6 := (hb.frozen (p := ⟨w.heap.size + 1 + 1, 0, none⟩) (by simp <;> omega)).trans (frozen_alloc_l _ hc6 hf6)
        replace hc6 := (hb.cell (p := ⟨w.heap.size + 1 + 1, 0, none⟩) (by simp <;> omega)).trans (cell_alloc_l _ hc6)
        replace hf7 := (hb.frozen (p := ⟨w.heap.size + 1 + 1 + 1, 0, none⟩) (by simp <;> omega)).trans (frozen_alloc_l _ hc7 hf7)
        replace hc7 := (hb.cell (p := ⟨w.heap.size + 1 + 1 + 1, 0, none⟩) (by simp <;> omega)).trans (cell_alloc_l _ hc7)
        have hz2 := hb.size
        simp at hz2
        replace hbb : Below w.heap.size w w2 := (hbb.alloc (by omega) _).trans (hb.mono (by simp <;> omega))
        replace hz : w.heap.size + 1 + 1 + 1 + 1 ≤ w2.heap.size := by omega
        clear hb hz2
        go_wp2_with fail
        refine (within_tk _ _ _ _).mono ?_
        rintro e w' ⟨rfl, rfl⟩
        rw [HW.out]
        go_wp2_with fail
        refine ⟨.tuple #[.bool false, .int .i64 2], by simp [results, Tryd.results10, go_sem, hc6, hc7, hf6, hf7], by rw [HF.out.1, HF.out.2], ?_⟩
        exact (hbb.setCell (p := ⟨w.heap.size + 1 + 1, 0, none⟩) (by simp <;> omega) _).setCell (p := ⟨w.heap.size + 1 + 1 + 1, 0, none⟩) (by simp <;> omega) _
      | true =>
        have hokk : nearOK l (x, y) wd = true := by simp [nearOK, hc, ho, hw]
        have hlen : (2 : Int) ≤ l.length ∧ (l.length : Int) ≤ 1024 := by
          simp only [checkB, Bool.and_eq_true] at hc
          simpa [withinB] using hc.1.1
        obtain ⟨m, hm, hm1, hm2⟩ : ∃ m, l.length = m + 1 ∧ 1 ≤ m ∧ m ≤ 1023 := ⟨l.length - 1, by omega, by omega, by omega⟩
        have hup := legsW_upto l m hm
        obtain ⟨b, off, rfl, hbl, hcc⟩ := h3 (by omega)
        have hcells : ∀ k, k ≤ m → w.cell? ⟨b, off + k * 2, none⟩ = some (.int .i64 (l.getD k default).1) ∧ w.cell? ⟨b, off + k * 2 + 1, none⟩ = some (.int .i64 (l.getD k default).2) := fun k hk =>
          hcc k _ (by simp [List.getD, show k < l.length by omega])
        have HCE := Lib.hid hcells
        have HW := Lib.hid hw
        have HU := Lib.hid hup
        have HM := Lib.hid hm
        have HOK := Lib.hid hokk
        clear hc hov ho hw h3 hup hcc hcells hm hokk
        refine callsIn_of_wp_marks Tryd.func10 rfl trivial ?_ rfl
        simp only [Tryd.ntmps10, List.size_toArray, List.length_cons, List.length_nil, Nat.reduceAdd, Nat.reduceSub, Array.replicate_succ, Array.replicate_zero, List.push_toArray, List.append_toArray, List.nil_append, List.cons_append]
        refine wpIn_wide.2 ?_
        go_wp2_with fail
        refine (HV.out _ HBE.out).mono ?_
        rintro e w1 ⟨rfl, hb⟩
        rw [HC.out]
        have hc4 := hb.cell (p := ⟨w.heap.size, 0, none⟩) (by simp <;> omega)
        have hc4' := hb.cell (p := ⟨w.heap.size, 1, none⟩) (by simp <;> omega)
        have hc5 := hb.cell (p := ⟨w.heap.size + 1, 0, none⟩) (by simp <;> omega)
        have hc6 := hb.cell (p := ⟨w.heap.size + 1 + 1, 0, none⟩) (by simp)
        have hf6 := hb.frozen (p := ⟨w.heap.size + 1 + 1, 0, none⟩) (by simp)
        have hc7 := hb.cell (p := ⟨w.heap.size + 1 + 1 + 1, 0, none⟩) (by simp)
        have hf7 := hb.frozen (p := ⟨w.heap.size + 1 + 1 + 1, 0, none⟩) (by simp)
        have hz := hb.size
        simp [go_sem] at hc4 hc4' hc5 hc6 hf6 hc7 hf7 hz
        have hbb : Below w.heap.size w w1 := HBE.out.trans (hb.mono (by simp <;> omega))
        clear hb
        go_wp2_with fail
        refine (valid_tk _ [(x, y)] _ (Spots_one _ _ _ _)).mono ?_
        rintro e w2 ⟨rfl, hb⟩
        rw [HO.out]
        replace hc4 := (hb.cell (p := ⟨w.heap.size, 0, none⟩) (by simp <;> omega)).trans (cell_alloc_l _ hc4)
        replace hc4' := (hb.cell (p := ⟨w.heap.size, 1, none⟩) (by simp <;> omega)).trans (cell_alloc_l _ hc4')
        replace hc5 := (hb.cell (p := ⟨w.heap.size + 1, 0, none⟩) (by simp <;> omega)).trans (cell_alloc_l _ hc5)
        replace hf6 := (hb.frozen (p := ⟨w.heap.size + 1 + 1, 0, none⟩) (by simp <;> omega)).trans (frozen_alloc_l _ hc6 hf6)
        replace hc6 := (hb.cell (p := ⟨w.heap.size + 1 + 1, 0, none⟩) (by simp <;> omega)).trans (cell_alloc_l _ hc6)
        replace hf7 := (hb.frozen (p := ⟨w.heap.size + 1 + 1 + 1, 0, none⟩) (by simp <;> omega)).trans (frozen_alloc_l _ hc7 hf7)
        replace hc7 := (hb.cell (p := ⟨w.heap.size + 1 + 1 + 1, 0, none⟩) (by simp <;> omega)).trans (cell_alloc_l _ hc7)
        have hz2 := hb.size
        simp at hz2
        replace hbb : Below w.heap.size w w2 := (hbb.alloc (by omega) _).trans (hb.mono (by simp <;> omega))
        replace hz : w.heap.size + 1 + 1 + 1 + 1 ≤ w2.heap.size := by omega
        clear hb hz2
        go_wp2_with fail
        refine (within_tk _ _ _ _).mono ?_
        rintro e w' ⟨rfl, rfl⟩
        rw [HW.out]
        go_wp2_with fail
        refine (legs_tk _ _ _ _).mono ?_
        rintro e w3 ⟨rfl, rfl⟩
        go_wp2_with fail
        refine (wpIn_wide (n := 5)).1 ?_
        rw [HM.out]
        obtain ⟨W0, hW0⟩ : ∃ W0, w2.alloc (.cells #[.slice (some ⟨b, off, none⟩) (m + 1) c] 27) = W0 := ⟨_, rfl⟩
        rw [hW0]
        have pW : W0.heap.size = w2.heap.size + 1 ∧ W0.cell? ⟨w2.heap.size, 0, none⟩ = some (.slice (some ⟨b, off, none⟩) (m + 1) c) ∧ (W0.cell? ⟨w.heap.size, 0, none⟩ = some (.int .i64 x) ∧ W0.cell? ⟨w.heap.size, 1, none⟩ = some (.int .i64 y) ∧ W0.cell? ⟨w.heap.size + 1, 0, none⟩ = some (.int .i64 wd)) ∧
            (W0.cell? ⟨w.heap.size + 1 + 1, 0, none⟩ = some (.bool false) ∧ W0.frozen? ⟨w.heap.size + 1 + 1, 0, none⟩ = false ∧ W0.cell? ⟨w.heap.size + 1 + 1 + 1, 0, none⟩ = some (.int .i64 0) ∧ W0.frozen? ⟨w.heap.size + 1 + 1 + 1, 0, none⟩ = false) ∧ Below w.heap.size w W0 := by
          subst hW0
          exact ⟨by simp, (cell_new_l w2 _ _).1, ⟨cell_alloc_l _ hc4, cell_alloc_l _ hc4', cell_alloc_l _ hc5⟩, ⟨cell_alloc_l _ hc6, frozen_alloc_l _ hc6 hf6, cell_alloc_l _ hc7, frozen_alloc_l _ hc7 hf7⟩, hbb.alloc (by omega) _⟩
        obtain ⟨q1, q2, ⟨q4, q4', q5⟩, ⟨q6, qf6, q7, qf7⟩, q8⟩ := pW
        clear hW0 hc4 hc4' hc5 hc6 hf6 hc7 hf7 hbb
        have qs : w.heap.size + 1 + 1 + 1 + 1 + 1 ≤ W0.heap.size := by omega
        refine wpIn_rangeFunc_ownH rfl (by omega) (gf := 42) (lb := #[.pointer (some ⟨w2.heap.size, 0, none⟩)]) rfl trivial (enters_of Tryd.func42 (by kernel_rfl) rfl)
          (legs_stops 4 (by omega) w2.heap.size b off m c (fun q => q = b ∨ q = w2.heap.size) (.inl rfl) (.inr rfl) (fun i => l.getD i default) hm1 (by have := HM.out; omega) (by omega) W0 (fun q hq => by rcases hq with rfl | rfl <;> omega) q2
            (fun k hk => ⟨(q8.cell (p := ⟨b, off + k * 2, none⟩) hbl).trans (HCE.out k hk).1, (q8.cell (p := ⟨b, off + k * 2 + 1, none⟩) hbl).trans (HCE.out k hk).2⟩))
          (fun h k => KeepB.trans h k) (fun W l' o o' hl _ _ _ => KeepB.putObj (n := W0.heap.size) (fun q hq => by rcases hq with rfl | rfl <;> omega) W l' o' hl) (Below.refl _ _) (fun _ => rfl)
          (fun pre W => (∀ z ∈ pre, nearW z (x, y) wd = false) ∧ Below W0.heap.size W0 W)
          (fun c pre W => ((c = .ret ∧ ∃ z ∈ pre, nearW z (x, y) wd = true) ∧ W.cell? ⟨w.heap.size + 1 + 1, 0, none⟩ = some (.bool true) ∧ W.cell? ⟨w.heap.size + 1 + 1 + 1, 0, none⟩ = some (.int .i64 0)) ∧ Below w.heap.size w W)
          (OwnFrom.and (ownFrom_pure _ _) (ownFrom_below (Nat.le_refl _) (Nat.le_refl _)))
          (fun c => OwnFrom.and (Own.from (fun s A B row hs hg hr => ⟨hs.1, cell_kept hs.2.1 hg hr, cell_kept hs.2.2 hg hr⟩) _) (ownFrom_below (Nat.le_refl _) (by omega)))
          ⟨by simp, Below.refl _ _⟩
          (fun z a' W => ∃ Bx, (W.cell? ⟨Bx, 0, none⟩ = some (.int .i64 z.fx) ∧ W.cell? ⟨Bx, 1, none⟩ = some (.int .i64 z.fy) ∧ W.cell? ⟨Bx, 2, none⟩ = some (.int .i64 z.wx) ∧ W.cell? ⟨Bx, 3, none⟩ = some (.int .i64 z.wy) ∧ W.cell? ⟨Bx, 4, none⟩ = some (.int .i64 z.far)) ∧
            a' = { tmps := #[.slice (some ⟨b, off, none⟩) (m + 1) c, .agg #[.int .i64 x, .int .i64 y], .int .i64 wd, undef, .pointer (some ⟨w.heap.size, 0, none⟩), .pointer (some ⟨w.heap.size + 1, 0, none⟩), .pointer (some ⟨w.heap.size + 1 + 1, 0, none⟩), .pointer (some ⟨w.heap.size + 1 + 1 + 1, 0, none⟩), .pointer (some ⟨Bx, 0, none⟩), .slice (some ⟨b, off, none⟩) (m + 1) c, .int .i64 0, .bool false, .bool false, .agg #[.int .i64 x, .int .i64 y], .slice (some ⟨w1.heap.size, 0, none⟩) 1 1, .bool true, .bool false, .bool false, .bool false, .int .i64 wd, .bool true, .bool false, .bool false, .slice (some ⟨b, off, none⟩) (m + 1) c, .func (.func 42) #[] #[.pointer (some ⟨w2.heap.size, 0, none⟩)], encLeg z, undef, undef, undef, undef], defers := [] })
          (fun z a' => Own.from (fun s A B row hs hg hr => by obtain ⟨Bx, h, e⟩ := hs; exact ⟨Bx, ⟨cell_kept h.1 hg hr, cell_kept h.2.1 hg hr, cell_kept h.2.2.1 hg hr, cell_kept h.2.2.2.1 hg hr, cell_kept h.2.2.2.2 hg hr⟩, e⟩) _)
          ?assign ?body ?done ?stop
        case assign =>
          rintro l' pre z W K ⟨hp, hB⟩ hK
          obtain ⟨fx, fy, wx, wy, far⟩ := z
          dsimp only [encLeg]
          have hS0 := hB.size
          have hK' := hK { tmps := #[.slice (some ⟨b, off, none⟩) (m + 1) c, .agg #[.int .i64 x, .int .i64 y], .int .i64 wd, undef, .pointer (some ⟨w.heap.size, 0, none⟩), .pointer (some ⟨w.heap.size + 1, 0, none⟩), .pointer (some ⟨w.heap.size + 1 + 1, 0, none⟩), .pointer (some ⟨w.heap.size + 1 + 1 + 1, 0, none⟩), .pointer (some ⟨W.heap.size, 0, none⟩), .slice (some ⟨b, off, none⟩) (m + 1) c, .int .i64 0, .bool false, .bool false, .agg #[.int .i64 x, .int .i64 y], .slice (some ⟨w1.heap.size, 0, none⟩) 1 1, .bool true, .bool false, .bool false, .bool false, .int .i64 wd, .bool true, .bool false, .bool false, .slice (some ⟨b, off, none⟩) (m + 1) c, .func (.func 42) #[] #[.pointer (some ⟨w2.heap.size, 0, none⟩)], .agg #[.int .i64 fx, .int .i64 fy, .int .i64 wx, .int .i64 wy, .int .i64 far], undef, undef, undef, undef], defers := [] }
            (W.alloc (.cells #[.int .i64 fx, .int .i64 fy, .int .i64 wx, .int .i64 wy, .int .i64 far] 68)) ((KeepsOthers.alloc _ _).from _) (KeepB.below ((Below.refl _ _).alloc (Nat.le_refl _) _) (fun q hq => by rcases hq with rfl | rfl <;> omega))
            ⟨hp, hB.alloc hB.size _⟩ ⟨W.heap.size, by simp [go_sem], rfl⟩
          have HK := Lib.hid hK'
          clear hK hK'
          gi_wp2
          exact HK.out
        case body =>
          rintro l' pre z a' W hl ⟨r, hr⟩ ⟨hp, hB⟩ ⟨Bx, ⟨x0, x1, x2, x3, x4⟩, rfl⟩ hlt
          have hS0 := hB.size
          have p4 := (hB.cell (p := ⟨w.heap.size, 0, none⟩) (by simp <;> omega)).trans q4
          have p4' := (hB.cell (p := ⟨w.heap.size, 1, none⟩) (by simp <;> omega)).trans q4'
          have p5 := (hB.cell (p := ⟨w.heap.size + 1, 0, none⟩) (by simp <;> omega)).trans q5
          have p6 := (hB.cell (p := ⟨w.heap.size + 1 + 1, 0, none⟩) (by simp <;> omega)).trans q6
          have pf6 := (hB.frozen (p := ⟨w.heap.size + 1 + 1, 0, none⟩) (by simp <;> omega)).trans qf6
          have p7 := (hB.cell (p := ⟨w.heap.size + 1 + 1 + 1, 0, none⟩) (by simp <;> omega)).trans q7
          have pf7 := (hB.frozen (p := ⟨w.heap.size + 1 + 1 + 1, 0, none⟩) (by simp <;> omega)).trans qf7
          have hcall := near_tk z x y wd W
          cases hz : nearW z (x, y) wd with
          | true =>
            rw [hz] at hcall
            have HC2 := Lib.hid hcall
            have HZ := Lib.hid hz
            clear hcall hz q4 q4' q5 q6 qf6 q7 qf7
            gi_wp2_with fail
            refine ⟨trivial, (CallsIn.inRound l' (callsIn_wide.2 HC2.out)).mono ?_⟩
            rintro e w4 ⟨rfl, hb⟩
            replace p6 := (hb.cell (p := ⟨w.heap.size + 1 + 1, 0, none⟩) (by simp <;> omega)).trans p6
            replace pf6 := (hb.frozen (p := ⟨w.heap.size + 1 + 1, 0, none⟩) (by simp <;> omega)).trans pf6
            replace p7 := (hb.cell (p := ⟨w.heap.size + 1 + 1 + 1, 0, none⟩) (by simp <;> omega)).trans p7
            replace pf7 := (hb.frozen (p := ⟨w.heap.size + 1 + 1 + 1, 0, none⟩) (by simp <;> omega)).trans pf7
            have hs4 := hb.size
            have hbw : Below w.heap.size w w4 := (q8.trans (hB.mono q8.size)).trans (hb.mono (by omega))
            gi_wp2_with fail
            refine ⟨?_, ⟨⟨rfl, z, List.mem_append.2 (.inr (by simp)), HZ.out⟩, ?_, ?_⟩, ?_⟩
            · exact (KeepsFrom.trans ⟨hb.size, fun k o _ hk _ => (hb.block k (Array.getElem?_eq_some_iff.1 hk).1).trans hk⟩ ((KeepsOthers.setCell _ _ _).from _)).trans ((KeepsOthers.setCell _ _ _).from _)
            · exact (World.cell?_setCell_other _ _ _ _ (by simp)).trans (World.cell?_setCell_same' _ _ _ (by rw [p6]; rfl))
            · exact World.cell?_setCell_same' _ _ _ (by rw [World.cell?_setCell_other _ _ _ _ (by simp), p7]; rfl)
            · exact (hbw.setCell (p := ⟨w.heap.size + 1 + 1, 0, none⟩) (by simp <;> omega) _).setCell (p := ⟨w.heap.size + 1 + 1 + 1, 0, none⟩) (by simp <;> omega) _
          | false =>
            rw [hz] at hcall
            have HC2 := Lib.hid hcall
            have HZ := Lib.hid hz
            clear hcall hz q4 q4' q5 q6 qf6 q7 qf7
            gi_wp2_with fail
            refine ⟨trivial, (CallsIn.inRound l' (callsIn_wide.2 HC2.out)).mono ?_⟩
            rintro e w4 ⟨rfl, hb⟩
            have hs4 := hb.size
            gi_wp2_with fail
            refine ⟨⟨hb.size, fun k o _ hk _ => (hb.block k (Array.getElem?_eq_some_iff.1 hk).1).trans hk⟩, KeepB.below hb (fun q hq => by rcases hq with rfl | rfl <;> omega), ?_, hB.trans (hb.mono hS0)⟩
            exact fun z' hz' => (List.mem_append.1 hz').elim (hp z') (fun e => by simp at e; subst e; exact HZ.out)
        case done =>
          rintro D ys W hD rfl ⟨hne, hB⟩ hK
          have hS0 := hB.size
          have hfin : nearB l (x, y) wd = false ∧ nearE l (x, y) wd = 0 := by
            refine ⟨?_, by simp [nearE, HOK.out]⟩
            rw [nearB, HOK.out, HU.out, Bool.true_and, List.any_eq_false]
            exact fun z hz => by simp [hne z hz]
          have HF := Lib.hid hfin
          have p6 := (hB.cell (p := ⟨w.heap.size + 1 + 1, 0, none⟩) (by simp <;> omega)).trans q6
          have pf6 := (hB.frozen (p := ⟨w.heap.size + 1 + 1, 0, none⟩) (by simp <;> omega)).trans qf6
          have p7 := (hB.cell (p := ⟨w.heap.size + 1 + 1 + 1, 0, none⟩) (by simp <;> omega)).trans q7
          have pf7 := (hB.frozen (p := ⟨w.heap.size + 1 + 1 + 1, 0, none⟩) (by simp <;> omega)).trans qf7
          have hbw : Below w.heap.size w W := q8.trans (hB.mono q8.size)
          clear hfin hne q4 q4' q5 q6 qf6 q7 qf7
          go_wp2_with fail
          obtain ⟨W5, hW5⟩ : ∃ W5, (W.setCell ⟨w.heap.size + 1 + 1, 0, none⟩ (.bool false)).setCell ⟨w.heap.size + 1 + 1 + 1, 0, none⟩ (.int .i64 0) = W5 := ⟨_, rfl⟩
          have c6 : W5.cell? ⟨w.heap.size + 1 + 1, 0, none⟩ = some (.bool false) := by
            rw [← hW5]; exact (World.cell?_setCell_other _ _ _ _ (by simp)).trans (World.cell?_setCell_same' _ _ _ (by rw [p6]; rfl))
          have c7 : W5.cell? ⟨w.heap.size + 1 + 1 + 1, 0, none⟩ = some (.int .i64 0) := by
            rw [← hW5]; exact World.cell?_setCell_same' _ _ _ (by rw [World.cell?_setCell_other _ _ _ _ (by simp), p7]; rfl)
          have hK' : W5.heap[D]? = some (.deferred (some [])) := by
            rw [← hW5]; exact ((KeepsOthers.setCell _ _ _).trans (KeepsOthers.setCell _ _ _)).same D _ hK rfl
          have hbw5 : Below w.heap.size w W5 := by
            rw [← hW5]; exact (hbw.setCell (p := ⟨w.heap.size + 1 + 1, 0, none⟩) (by simp <;> omega) _).setCell (p := ⟨w.heap.size + 1 + 1 + 1, 0, none⟩) (by simp <;> omega) _
          rw [hW5]
          clear hW5 hK hbw p6 pf6 p7 pf7
          refine ⟨by simp, .inl ⟨_, _, rfl, run_takeDeferred hK', ?_⟩⟩
          have d6 := cell_kept c6 (grownBy_putObj' _ D (.deferred none)) (fun r e => by cases e; exact ⟨_, hK', rfl⟩)
          have d7 := cell_kept c7 (grownBy_putObj' _ D (.deferred none)) (fun r e => by cases e; exact ⟨_, hK', rfl⟩)
          refine ⟨.tuple #[.bool false, .int .i64 0], by simp [results, Tryd.results10, go_sem, d6, d7], by rw [HF.out.1, HF.out.2], hbw5.trans (belowK_b (w := w) (Nat.le_refl _) W5 D _ _ (by omega) hK' rfl rfl)⟩
        case stop =>
          rintro D c' pre W hD ⟨k, hk, rfl⟩ ⟨⟨⟨rfl, z, hz, hnz⟩, hc6, hc7⟩, hB⟩ hK
          have hfin : nearB l (x, y) wd = true ∧ nearE l (x, y) wd = 0 := by
            refine ⟨?_, by simp [nearE, HOK.out]⟩
            rw [nearB, HOK.out, HU.out, Bool.true_and, List.any_eq_true]
            refine ⟨z, ?_, hnz⟩
            simp only [uptoL, List.mem_map, List.mem_range] at hz ⊢
            obtain ⟨i, hi, e⟩ := hz
            exact ⟨i, by omega, e⟩
          have HF := Lib.hid hfin
          clear hfin hz hnz q4 q4' q5 q6 qf6 q7 qf7
          refine wpIn_wide.2 ?_
          go_wp2_with fail
          refine ⟨by simp, .inl ⟨_, _, rfl, run_takeDeferred hK, ?_⟩⟩
          have d6 := cell_kept hc6 (grownBy_putObj' _ D (.deferred none)) (fun r e => by cases e; exact ⟨_, hK, rfl⟩)
          have d7 := cell_kept hc7 (grownBy_putObj' _ D (.deferred none)) (fun r e => by cases e; exact ⟨_, hK, rfl⟩)
          refine ⟨.tuple #[.bool true, .int .i64 0], by simp [results, Tryd.results10, go_sem, d6, d7], by rw [HF.out.1, HF.out.2], hB.trans (belowK_b (w := w) (Nat.le_refl _) W D _ _ (by omega) hK rfl rfl)⟩
end Go.Proofs.YtnbdnnbeiohmgaaDoor
