/- Contracts of the small functions of package tracks. -/
import Derived.WalkKit
import Derived.WalkLawsBesides
import Derived.WalkSpells
import Derived.Lib.Hide
import Derived.BigQuiet
import Derived.Deep.QuietTactic
import Derived.Deep.Draws
import Derived.Test.YtnbdnnbeiohmgaaDoorTkSpec
import Derived.Test.YtnbdnnbeiohmgaaDoorProg
namespace Go.Proofs.YtnbdnnbeiohmgaaDoor
open Go.RowKit
open Go.Proofs.Rings (Leg sg)

theorem ret_of {v u : Value} (h : v = u) : Ending.returned v = .returned u := by rw [h]
theorem below_drewN {B : Nat} {a w : World} (h : Below B a w) (n : Nat) : Below B a (w.drewN n) := ⟨h.os, h.tape, h.output, h.size, h.block⟩

theorem within_tk (n lo hi : Int) (w : World) : Calls Tryd.prog 22 #[.int .i64 n, .int .i64 lo, .int .i64 hi] w fun e w' => e = .returned (.bool (withinB n lo hi)) ∧ w = w' := by
  go_enter Tryd.func22, Tryd.ntmps22
  go_wp2
  · go_ret
    have h : lo ≤ n := by assumption
    exact ⟨by simp [withinB, h], rfl⟩
  · go_ret
    have h : n < lo := by assumption
    have h' : ¬ lo ≤ n := by omega
    exact ⟨by simp [withinB, h'], rfl⟩

theorem size_tk (n : Int) (w : World) : Calls Tryd.prog 41 #[.int .i64 n] w fun e w' => e = .returned (.int .i64 (szW n)) ∧ w = w' := by
  go_enter Tryd.func41, Tryd.ntmps41
  go_wp2
  · go_ret
    have h : n < wrap64 (-n) := by assumption
    exact ⟨by simp [szW, h], rfl⟩
  · go_ret
    have h : ¬ n < wrap64 (-n) := by have : wrap64 (-n) ≤ n := by assumption
                                     omega
    exact ⟨by simp [szW, h], rfl⟩

theorem sign_tk (n : Int) (w : World) : Calls Tryd.prog 43 #[.int .i64 n] w fun e w' => e = .returned (.int .i64 (sg n)) ∧ w = w' := by
  rcases Int.lt_trichotomy n 0 with h | h | h
  · have h1 : n < 1 := by omega
    have h2 : ¬ (-1 < n) := by omega
    go_enter Tryd.func43, Tryd.ntmps43
    go_wp2
    all_goals (go_ret; exact ⟨by simp [sg, h], rfl⟩)
  · subst h
    go_enter Tryd.func43, Tryd.ntmps43
    go_wp2
    all_goals (go_ret; exact ⟨by simp [sg], rfl⟩)
  · have h1 : ¬ n < 0 := by omega
    have h2 : n ≠ 0 := by omega
    by_cases h3 : n < 1
    · omega
    · go_enter Tryd.func43, Tryd.ntmps43
      go_wp2
      all_goals (go_ret; exact ⟨by simp [sg, h1, h2], rfl⟩)

theorem shifted_tk (x y u v n : Int) (w : World) : Calls Tryd.prog 23 #[.agg #[.int .i64 x, .int .i64 y], .agg #[.int .i64 u, .int .i64 v], .int .i64 n] w fun e w' =>
    e = .returned (.agg #[.int .i64 (shW x u n), .int .i64 (shW y v n)]) ∧ Below w.heap.size w w' := by
  go_enter Tryd.func23, Tryd.ntmps23
  go_wp2
  refine bodyPost_ret (v := .agg #[.int .i64 (shW x u n), .int .i64 (shW y v n)]) (by simp [results, Tryd.results23, go_sem, shW]) rfl ⟨rfl, ?_⟩
  exact (((Below.refl _ _).alloc (Nat.le_refl _) _).alloc (by simp) _).alloc (by simp; omega) _

theorem straight_tk (l : Leg) (w : World) : Calls Tryd.prog 37 #[.agg #[.int .i64 l.fx, .int .i64 l.fy, .int .i64 l.wx, .int .i64 l.wy, .int .i64 l.far]] w fun e w' =>
    e = .returned (.bool (l.wx == 0 || l.wy == 0)) ∧ Below w.heap.size w w' := by
  obtain ⟨fx, fy, wx, wy, far⟩ := l
  dsimp only
  by_cases h : wx = 0
  · subst h
    go_enter Tryd.func37, Tryd.ntmps37
    go_wp2
    go_ret
    exact ⟨by simp, (Below.refl _ _).alloc (Nat.le_refl _) _⟩
  · have hb : (wx == 0) = false := by simpa using h
    go_enter Tryd.func37, Tryd.ntmps37
    go_wp2
    go_ret
    exact ⟨by simp [hb], (Below.refl _ _).alloc (Nat.le_refl _) _⟩

/-- the closure of valid: is a spot NOT valid? -/
theorem odd_tk (x y : Int) (w : World) : Calls Tryd.prog 40 #[.agg #[.int .i64 x, .int .i64 y]] w fun e w' =>
    e = .returned (.bool (!okS (x, y))) ∧ Below w.heap.size w w' := by
  by_cases h : szW x ≤ 16777216
  · have hb : decide (16777216 < szW x) = false := by simpa using h
    go_enter Tryd.func40, Tryd.ntmps40
    go_wp2_with fail
    refine (size_tk _ _).mono ?_
    rintro e w' ⟨rfl, rfl⟩
    go_wp2_with fail
    refine (size_tk _ _).mono ?_
    rintro e w' ⟨rfl, rfl⟩
    go_wp2_with fail
    go_ret
    refine ⟨ret_of ?_, (Below.refl _ _).alloc (Nat.le_refl _) _⟩
    by_cases h2 : szW y ≤ 16777216
    · simp [okS, okC, h, h2]
    · simp [okS, okC, h, h2]; omega
  · have hb : 16777216 < szW x := by omega
    go_enter Tryd.func40, Tryd.ntmps40
    go_wp2_with fail
    refine (size_tk _ _).mono ?_
    rintro e w' ⟨rfl, rfl⟩
    go_wp2_with fail
    go_ret
    exact ⟨ret_of (by simp [okS, okC, h]), (Below.refl _ _).alloc (Nat.le_refl _) _⟩
end Go.Proofs.YtnbdnnbeiohmgaaDoor
