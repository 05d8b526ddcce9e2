/- Contracts of the small functions of package grid. -/
import Derived.WalkKit
import Derived.WalkLawsBesides
import Derived.WalkSpells
import Derived.Lib.Hide
import Derived.BigQuiet
import Derived.Deep.QuietTactic
import Derived.Deep.Draws
import Derived.Test.YtnbdnnbeiohmgaaProg
namespace Go.Proofs.Ytnbdnnbeiohmgaa
open Go.RowKit

def inB (n lo hi : Int) : Bool := decide (lo ≤ n) && decide (n ≤ hi)
theorem retOf {v u : Value} (h : v = u) : Ending.returned v = .returned u := by rw [h]
theorem belowDrewN {B : Nat} {a w : World} (h : Below B a w) (n : Nat) : Below B a (w.drewN n) := ⟨h.os, h.tape, h.output, h.size, h.block⟩
theorem belowDrew {B : Nat} {a w : World} (h : Below B a w) : Below B a w.drew := ⟨h.os, h.tape, h.output, h.size, h.block⟩
theorem wrapId (e : Int) (h1 : -9223372036854775808 ≤ e) (h2 : e ≤ 9223372036854775807) : wrap64 e = e := by
  unfold wrap64
  omega

theorem wrapK (e : Int) (h1 : -9223372036854775808 ≤ e) (h2 : e ≤ 9223372036854775807) : IntKind.i64.wrap e = e := by
  rw [IntWalk.i64_left]
  exact wrapId e h1 h2

theorem within_gr (n lo hi : Int) (w : World) : Calls Try.prog 62 #[.int .i64 n, .int .i64 lo, .int .i64 hi] w fun e w' => e = .returned (.bool (inB n lo hi)) ∧ w = w' := by
  go_enter Try.func62, Try.ntmps62
  go_wp2
  · go_ret
    have h : lo ≤ n := by assumption
    exact ⟨by simp [inB, h], rfl⟩
  · go_ret
    have h : n < lo := by assumption
    have h' : ¬ lo ≤ n := by omega
    exact ⟨by simp [inB, h'], rfl⟩

theorem floor_eq (a b : Int) (hb : 1 ≤ b) (h : a < 0) : -((b - 1 - a).tdiv b) = a / b := by
  rw [Int.tdiv_eq_ediv_of_nonneg (by omega)]
  have e1 : b * ((b - 1 - a) / b) + (b - 1 - a) % b = b - 1 - a := Int.mul_ediv_add_emod _ _
  have e2 := Int.emod_nonneg (b - 1 - a) (b := b) (by omega)
  have e3 := Int.emod_lt_of_pos (b - 1 - a) (b := b) (by omega)
  have e5 := (Int.ediv_emod_unique (a := a) (b := b) (r := b - 1 - (b - 1 - a) % b) (q := -((b - 1 - a) / b)) (by omega)).2 ⟨by rw [Int.mul_neg]; omega, by omega, by omega⟩
  exact e5.1.symm

theorem floor_gr (a b : Int) (w : World) (ha : -1152921504606846976 ≤ a ∧ a ≤ 1152921504606846976) (hb : 1 ≤ b ∧ b ≤ 50000) : Calls Try.prog 61 #[.int .i64 a, .int .i64 b] w fun e w' => e = .returned (.int .i64 (a / b)) ∧ w = w' := by
  have hb0 : (b == 0) = false := by simp; omega
  have hb1 : ¬ b = 0 := by omega
  have hbm : (b == -1) = false := by simp; omega
  by_cases h : a < 0
  · have e1 : wrap64 (b - 1) = b - 1 := wrapId _ (by omega) (by omega)
    have e2 : wrap64 (b - 1 - a) = b - 1 - a := wrapId _ (by omega) (by omega)
    have e4 := floor_eq a b hb.1 h
    have q1 : (0 : Int) ≤ (b - 1 - a).tdiv b := Int.tdiv_nonneg (by omega) (by omega)
    have q2 : (b - 1 - a).tdiv b ≤ b - 1 - a := by
      rw [Int.tdiv_eq_ediv_of_nonneg (by omega)]
      exact Int.ediv_le_self _ (by omega)
    obtain ⟨q, hq⟩ : ∃ q, (b - 1 - a).tdiv b = q := ⟨_, rfl⟩
    rw [hq] at e4 q1 q2
    have e3 : wrap64 q = q := wrapId _ (by omega) (by omega)
    have e5 : wrap64 (-q) = -q := wrapId _ (by omega) (by omega)
    rw [← e4]
    clear e4
    go_enter Try.func61, Try.ntmps61
    go_wp2
    go_ret
    all_goals simp [e1, e2, e3, e5, hq]
  · have q1 : (0 : Int) ≤ a / b := Int.ediv_nonneg (by omega) (by omega)
    have q2 : a / b ≤ a := Int.ediv_le_self _ (by omega)
    have e4 : a.tdiv b = a / b := Int.tdiv_eq_ediv_of_nonneg (by omega)
    obtain ⟨q, hq⟩ : ∃ q, a / b = q := ⟨_, rfl⟩
    rw [hq] at e4 q1 q2
    rw [hq]
    clear hq
    have e3 : wrap64 q = q := wrapId _ (by omega) (by omega)
    go_enter Try.func61, Try.ntmps61
    go_wp2
    go_ret
    all_goals simp [e3]
end Go.Proofs.Ytnbdnnbeiohmgaa
