/- Contracts of more small functions of package grid. -/
import Derived.Deep.RegionHeld3
import Derived.Test.YtnbdnnbeiohmgaaGrLeaf
namespace Go.Proofs.Ytnbdnnbeiohmgaa
open Go.RowKit

/-- is a spot valid, for package grid? -/
def nearC (n : Int) : Bool := inB n (-16777216) 16777216
theorem nearC_iff {n : Int} (h : nearC n = true) : -16777216 ≤ n ∧ n ≤ 16777216 := by
  simp [nearC, inB] at h
  omega

theorem root_gr (n : Int) (w : World) (h0 : 0 ≤ n) (h1 : n ≤ 281474976710656) : Calls Try.prog 72 #[.int .i64 n] w fun e w' => (∃ r : Int, e = .returned (.int .i64 r) ∧ 0 ≤ r ∧ r * r ≤ n ∧ n < (r + 1) * (r + 1)) ∧ w = w' := by
  go_enter Try.func72, Try.ntmps72
  go_wp2_with fail
  go_loopw [3, 4] (fun l h wr => wr = w ∧ ∃ a b : Int, l = .int .i64 a ∧ h = .int .i64 b ∧ 0 ≤ a ∧ a < b ∧ b ≤ 2147483648 ∧ a * a ≤ n ∧ n < b * b) (fun l h _ => (intOf h - intOf l).toNat)
  case atStart => exact ⟨rfl, 0, 2147483648, rfl, rfl, by omega, by omega, by omega, by omega, by omega⟩
  case round =>
    obtain ⟨rfl, a, b, rfl, rfl, ha, hab, hb, hA, hB⟩ := hrel
    have e1 : wrap64 (b - a) = b - a := wrapId _ (by omega) (by omega)
    have e2 : wrap64 (a + b) = a + b := wrapId _ (by omega) (by omega)
    obtain ⟨m, hm⟩ : ∃ m, (a + b).tdiv 2 = m := ⟨_, rfl⟩
    have hm' : (a + b) / 2 = m := by rw [← hm, Int.tdiv_eq_ediv_of_nonneg (by omega)]
    have e3 : wrap64 m = m := wrapId _ (by omega) (by omega)
    have hmm : 0 ≤ m * m := Int.mul_nonneg (by omega) (by omega)
    have hmm2 : m * m ≤ 4611686018427387904 := by
      have := Int.mul_le_mul (a := m) (b := m) (c := 2147483648) (d := 2147483648) (by omega) (by omega) (by omega) (by omega)
      omega
    have e4 : wrap64 (m * m) = m * m := wrapId _ (by omega) (by omega)
    by_cases hd : 1 < b - a
    · have hmb : a < m ∧ m < b := by omega
      by_cases hc : m * m ≤ n
      · clear hA hmm hmm2 hm'
        go_wp2_with fail
        go_roundw
        case rel => exact ⟨trivial, m, b, rfl, rfl, by omega, by omega, hb, hc, hB⟩
        case measure => simp [intOf]; omega
      · clear hB hmm hmm2 hm'
        go_wp2_with fail
        go_roundw
        case rel => exact ⟨trivial, a, m, rfl, rfl, by omega, by omega, by omega, hA, by omega⟩
        case measure => simp [intOf]; omega
    · obtain rfl : b = a + 1 := by omega
      clear hmm hmm2 hm'
      have HA := Lib.hid hA
      have HB := Lib.hid hB
      clear hA hB
      go_wp2_with fail
      go_ret
      exact ⟨⟨a, rfl, ha, HA.out, HB.out⟩, rfl⟩

/-- how far a number is from the places of a cell -/
def awayZ (S n c : Int) : Int := max 0 (max (c * S - n) (n - c * S - S + 1))
theorem away_gr (W H S n c : Int) (v : Value) (w : World) (hS : 1 ≤ S ∧ S ≤ 50000) (hn : -16777216 ≤ n ∧ n ≤ 16777216) (hc : 0 ≤ c ∧ c ≤ 256) :
    Calls Try.prog 71 #[.agg #[.int .i64 W, .int .i64 H, .int .i64 S, v], .int .i64 n, .int .i64 c] w fun e w' => e = .returned (.int .i64 (awayZ S n c)) ∧ Below w.heap.size w w' := by
  obtain ⟨k, hk⟩ : ∃ k, c * S = k := ⟨_, rfl⟩
  have hk0 : 0 ≤ k ∧ k ≤ 12800000 := by
    rw [← hk]
    exact ⟨Int.mul_nonneg (by omega) (by omega), by have := Int.mul_le_mul (a := c) (b := S) (c := 256) (d := 50000) (by omega) (by omega) (by omega) (by omega); omega⟩
  have e0 : wrap64 k = k := wrapId _ (by omega) (by omega)
  have e1 : wrap64 (k - n) = k - n := wrapId _ (by omega) (by omega)
  have e2 : wrap64 (n - k) = n - k := wrapId _ (by omega) (by omega)
  have e3 : wrap64 (n - k - S) = n - k - S := wrapId _ (by omega) (by omega)
  have e4 : wrap64 (n - k - S + 1) = n - k - S + 1 := wrapId _ (by omega) (by omega)
  unfold awayZ
  rw [hk]
  go_enter Try.func71, Try.ntmps71
  go_wp2_with fail
  all_goals (go_ret; refine ⟨retOf (congrArg (Value.int .i64) ?_), (Below.refl _ _).alloc (Nat.le_refl _) _⟩)
  all_goals first | omega | (rename_i h1 h2; split at h1 <;> omega) | (rename_i h1; split at h1 <;> omega)

theorem leads_gr (W H S lo hi : Int) (v : Value) (w : World) (hS : 1 ≤ S ∧ S ≤ 50000) (hl : -16777216 ≤ lo ∧ lo ≤ 16777216) (hh : -16777216 ≤ hi ∧ hi ≤ 16777216) :
    Calls Try.prog 53 #[.agg #[.int .i64 W, .int .i64 H, .int .i64 S, v], .int .i64 lo, .int .i64 hi] w fun e w' => e = .returned (.tuple #[.int .i64 (lo / S), .int .i64 ((S - 1 + hi) / S)]) ∧ Below w.heap.size w w' := by
  have e0 : IntKind.i64.wrap (S - 1) = S - 1 := wrapK _ (by omega) (by omega)
  have e1 : IntKind.i64.wrap (S - 1 + hi) = S - 1 + hi := wrapK _ (by omega) (by omega)
  have F1 := fun w => floor_gr lo S w (by omega) hS
  have F2 := fun w => floor_gr (S - 1 + hi) S w (by omega) hS
  have H1 := Lib.hid F1
  have H2 := Lib.hid F2
  clear F1 F2
  obtain ⟨q1, hq1⟩ : ∃ q, lo / S = q := ⟨_, rfl⟩
  obtain ⟨q2, hq2⟩ : ∃ q, (S - 1 + hi) / S = q := ⟨_, rfl⟩
  rw [hq1] at H1 ⊢
  rw [hq2] at H2 ⊢
  clear hq1 hq2
  go_enter Try.func53, Try.ntmps53
  go_wp2_with fail
  have c2 : (w.alloc (.cells #[.int .i64 W, .int .i64 H, .int .i64 S, v] 24)).cell? ⟨w.heap.size, 2, none⟩ = some (.int .i64 S) := by simp [go_sem]
  have b1 := (Below.refl w.heap.size w).alloc (Nat.le_refl _) (.cells #[.int .i64 W, .int .i64 H, .int .i64 S, v] 24)
  obtain ⟨w1, hw1⟩ : ∃ w1, w.alloc (.cells #[.int .i64 W, .int .i64 H, .int .i64 S, v] 24) = w1 := ⟨_, rfl⟩
  rw [hw1] at c2 b1 ⊢
  clear hw1
  go_region_held3 (fun W' => W'.cell? ⟨w.heap.size, 2, none⟩ = some (.int .i64 S)) (first | exact c2 | go_keep)
    (first | (go_at_call 61; first | ((with_reducible refine (H1.out _).mono ?_); rintro e w' ⟨rfl, rfl⟩) | ((with_reducible refine (H2.out _).mono ?_); rintro e w' ⟨rfl, rfl⟩)))
  go_wp2_with fail
  exact bodyPost_ret (v := .tuple #[.int .i64 q1, .int .i64 q2]) (by simp [results, Try.results53, go_sem]) rfl ⟨rfl, belowDrew b1⟩

def pushB (a b c d : Int) : Bool := inB a (-16777216) c && inB b (-16777216) d && decide (max c d ≤ 16777216)
theorem pushed_gr (a b c d : Int) (w : World) : Calls Try.prog 52 #[.agg #[.int .i64 a, .int .i64 b, .int .i64 c, .int .i64 d]] w fun e w' => e = .returned (.bool (pushB a b c d)) ∧ Below w.heap.size w w' := by
  unfold pushB
  go_enter Try.func52, Try.ntmps52
  go_wp2_with fail
  refine (within_gr _ _ _ _).mono ?_
  rintro e w' ⟨rfl, rfl⟩
  cases h1 : inB a (-16777216) c with
  | false =>
    go_wp2_with fail
    go_ret
    exact ⟨retOf (congrArg Value.bool (by simp [inB] at *; omega)), (Below.refl _ _).alloc (Nat.le_refl _) _⟩
  | true =>
    go_wp2_with fail
    refine (within_gr _ _ _ _).mono ?_
    rintro e w' ⟨rfl, rfl⟩
    cases h2 : inB b (-16777216) d with
    | false =>
      go_wp2_with fail
      go_ret
      exact ⟨retOf (congrArg Value.bool (by simp [inB] at *; omega)), (Below.refl _ _).alloc (Nat.le_refl _) _⟩
    | true =>
      go_wp2_with fail
      all_goals (go_ret; refine ⟨retOf (congrArg Value.bool ?_), (Below.refl _ _).alloc (Nat.le_refl _) _⟩)
      all_goals (simp [inB] at *; omega)

theorem near1_gr (x y : Int) (w : World) : Calls Try.prog 111 #[.agg #[.int .i64 x, .int .i64 y]] w fun e w' => e = .returned (.bool (!(nearC x && nearC y))) ∧ Below w.heap.size w w' := by
  unfold nearC
  go_enter Try.func111, Try.ntmps111
  go_wp2_with fail
  refine (within_gr _ _ _ _).mono ?_
  rintro e w' ⟨rfl, rfl⟩
  cases h1 : inB x (-16777216) 16777216 with
  | false =>
    go_wp2_with fail
    go_ret
    exact ⟨retOf (congrArg Value.bool (by simp [h1])), (Below.refl _ _).alloc (Nat.le_refl _) _⟩
  | true =>
    go_wp2_with fail
    refine (within_gr _ _ _ _).mono ?_
    rintro e w' ⟨rfl, rfl⟩
    go_wp2_with fail
    go_ret
    exact ⟨retOf (congrArg Value.bool (by simp [h1])), (Below.refl _ _).alloc (Nat.le_refl _) _⟩
end Go.Proofs.Ytnbdnnbeiohmgaa
