/- Nearness to a leg: how it is the same backwards, grows with the width, and holds between two places where it holds. -/
import Derived.Test.YtnbdnnbeiohmgaaDoorTkA
namespace Go.Proofs.Rings

/-- a leg in one of the eight directions -/
structure Way (l : Leg) : Prop where
  x : l.wx = -1 ∨ l.wx = 0 ∨ l.wx = 1
  y : l.wy = -1 ∨ l.wy = 0 ∨ l.wy = 1
  ne : ¬ (l.wx = 0 ∧ l.wy = 0)
  far : 0 < l.far
def unit (l : Leg) : Int := l.wx * l.wx + l.wy * l.wy
theorem Way.unit {l : Leg} (h : Way l) : unit l = 1 ∨ unit l = 2 := by
  unfold Rings.unit
  rcases h.x with e | e | e <;> rcases h.y with f | f | f <;> rw [e, f] <;> first | exact .inl rfl | exact .inr rfl | exact absurd ⟨e, f⟩ h.ne

/-- a place is near: there is a place of the leg, m steps of n on, that is near -/
def Wit (l : Leg) (s : Sp) (w n m : Int) : Prop :=
  0 < n ∧ 0 ≤ m ∧ m ≤ n * (l.far * unit l) ∧
  (n * unit l * (s.1 - l.fx) - m * l.wx) * (n * unit l * (s.1 - l.fx) - m * l.wx) + (n * unit l * (s.2 - l.fy) - m * l.wy) * (n * unit l * (s.2 - l.fy) - m * l.wy) ≤ (n * unit l * w) * (n * unit l * w)

theorem sq_nonneg (a : Int) : 0 ≤ a * a := by rw [← Int.natAbs_mul_self]; exact Int.natCast_nonneg _
theorem le_of_sq {n a b : Int} (hn : 0 < n) (h : n * n * a ≤ n * n * b) : a ≤ b := Int.le_of_mul_le_mul_left h (Int.mul_pos hn hn)

theorem wit_of {l : Leg} {s : Sp} {w : Int} (h : Way l) (hn : nearLeg l s w = true) : ∃ m, Wit l s w 1 m := by
  obtain ⟨U, hU⟩ : ∃ U, unit l = U := ⟨_, rfl⟩
  have hUv := h.unit
  rw [hU] at hUv
  unfold nearLeg nearL at hn
  dsimp only at hn
  have hU' : l.wx * l.wx + l.wy * l.wy = U := hU
  have hU2 : U * U = U + U ∧ U = 2 ∨ U = 1 := by rcases hUv with e | e <;> subst e <;> simp
  rw [hU'] at hn
  have hM : 0 < l.far * U := Int.mul_pos h.far (by omega)
  unfold Wit
  rw [hU]
  split at hn
  · refine ⟨0, by omega, by omega, by omega, ?_⟩
    have hn := of_decide_eq_true hn
    rcases hUv with e | e <;> subst e <;> grind
  · split at hn
    · refine ⟨l.far * U, by omega, by omega, by omega, ?_⟩
      have hn := of_decide_eq_true hn
      rcases hUv with e | e <;> subst e <;> grind
    · rename_i h1 h2
      refine ⟨(s.1 - l.fx) * l.wx + (s.2 - l.fy) * l.wy, by omega, by omega, by omega, ?_⟩
      have hn := of_decide_eq_true hn
      have hid : (1 * U * (s.1 - l.fx) - ((s.1 - l.fx) * l.wx + (s.2 - l.fy) * l.wy) * l.wx) * (1 * U * (s.1 - l.fx) - ((s.1 - l.fx) * l.wx + (s.2 - l.fy) * l.wy) * l.wx) + (1 * U * (s.2 - l.fy) - ((s.1 - l.fx) * l.wx + (s.2 - l.fy) * l.wy) * l.wy) * (1 * U * (s.2 - l.fy) - ((s.1 - l.fx) * l.wx + (s.2 - l.fy) * l.wy) * l.wy) = U * (((s.2 - l.fy) * l.wx - (s.1 - l.fx) * l.wy) * ((s.2 - l.fy) * l.wx - (s.1 - l.fx) * l.wy)) := by grind
      rw [hid]
      rcases hUv with e | e <;> subst e <;> grind

theorem near_of {l : Leg} {s : Sp} {w n m : Int} (h : Way l) (hw : Wit l s w n m) : nearLeg l s w = true := by
  obtain ⟨U, hU⟩ : ∃ U, unit l = U := ⟨_, rfl⟩
  have hUv := h.unit
  obtain ⟨hn, hm0, hm1, hq⟩ := hw
  rw [hU] at hUv hm1 hq
  have hU' : l.wx * l.wx + l.wy * l.wy = U := hU
  have hM : 0 < l.far * U := Int.mul_pos h.far (by omega)
  obtain ⟨M, hMe⟩ : ∃ M, l.far * U = M := ⟨_, rfl⟩
  obtain ⟨u, hu⟩ : ∃ u, s.1 - l.fx = u := ⟨_, rfl⟩
  obtain ⟨v, hv⟩ : ∃ v, s.2 - l.fy = v := ⟨_, rfl⟩
  obtain ⟨A, hA⟩ : ∃ A, u * l.wx + v * l.wy = A := ⟨_, rfl⟩
  rw [hu, hv] at hq
  rw [hMe] at hM hm1
  have hsq : (n * U * u - m * l.wx) * (n * U * u - m * l.wx) + (n * U * v - m * l.wy) * (n * U * v - m * l.wy) = n * n * (U * U * (u * u + v * v)) - 2 * (n * m * (U * A)) + m * m * U := by grind
  rw [hsq, show n * U * w * (n * U * w) = n * n * (U * U * (w * w)) by grind] at hq
  have hUp : 0 < U := by omega
  unfold nearLeg nearL
  dsimp only
  rw [hU', hu, hv, hA, hMe]
  have cancel : ∀ x y : Int, U * U * x ≤ U * U * y → x ≤ y := fun x y hxy => le_of_sq hUp hxy
  split
  · rename_i hA0
    rw [decide_eq_true_eq]
    have h1 : 0 ≤ n * m * (U * -A) := Int.mul_nonneg (Int.mul_nonneg (by omega) hm0) (Int.mul_nonneg (by omega) (by omega))
    have h2 : 0 ≤ m * m * U := Int.mul_nonneg (sq_nonneg m) (by omega)
    refine cancel _ _ (le_of_sq hn ?_)
    grind
  · split
    · rename_i hA0 hAM
      rw [decide_eq_true_eq]
      have h1 : 0 ≤ (n * M - m) * (n * A - n * M) := Int.mul_nonneg (by omega) (by rw [← Int.mul_sub]; exact Int.mul_nonneg (by omega) (by omega))
      have h2 : 0 ≤ (n * M - m) * (n * A - m) := Int.mul_nonneg (by omega) (by
        have : n * M ≤ n * A := Int.mul_le_mul_of_nonneg_left (by omega) (by omega)
        omega)
      have h3 : 0 ≤ U * ((n * M - m) * (n * A - n * M)) := Int.mul_nonneg (by omega) h1
      have h4 : 0 ≤ U * ((n * M - m) * (n * A - m)) := Int.mul_nonneg (by omega) h2
      refine cancel _ _ (le_of_sq hn ?_)
      have e1 : s.1 - (l.fx + l.wx * l.far) = u - l.wx * l.far := by omega
      have e2 : s.2 - (l.fy + l.wy * l.far) = v - l.wy * l.far := by omega
      rw [e1, e2]
      have e3 : U * U * ((u - l.wx * l.far) * (u - l.wx * l.far) + (v - l.wy * l.far) * (v - l.wy * l.far)) = U * U * (u * u + v * v) - 2 * (M * (U * A)) + M * M * U := by grind
      rw [e3]
      grind
    · rename_i hA0 hAM
      rw [decide_eq_true_eq]
      have h1 : 0 ≤ U * ((m - n * A) * (m - n * A)) := Int.mul_nonneg (by omega) (sq_nonneg _)
      have e1 : (v * l.wx - u * l.wy) * (v * l.wx - u * l.wy) = U * (u * u + v * v) - A * A := by grind
      rw [e1]
      have hUs : ∀ x y : Int, U * x ≤ U * y → x ≤ y := fun x y h => Int.le_of_mul_le_mul_left h hUp
      refine hUs _ _ (le_of_sq hn ?_)
      grind

theorem comb_id {n1 n2 U s p q f m1 m2 wx : Int} (hx : (n1 + n2) * s = n1 * p + n2 * q) : (n1 + n2) * U * (s - f) - (n1 * m1 + n2 * m2) * wx = n1 * (1 * U * (p - f) - m1 * wx) + n2 * (1 * U * (q - f) - m2 * wx) := by
  have h : U * ((n1 + n2) * s) = U * (n1 * p + n2 * q) := by rw [hx]
  grind
theorem sum_sq {n1 n2 A1 A2 B1 B2 K : Int} (h1 : 0 ≤ n1) (h2 : 0 ≤ n2) (a : A1 * A1 + B1 * B1 ≤ K) (b : A2 * A2 + B2 * B2 ≤ K) :
    (n1 * A1 + n2 * A2) * (n1 * A1 + n2 * A2) + (n1 * B1 + n2 * B2) * (n1 * B1 + n2 * B2) ≤ (n1 + n2) * (n1 + n2) * K := by
  have hnn : 0 ≤ n1 * n2 := Int.mul_nonneg h1 h2
  have d1 : 0 ≤ n1 * n2 * ((A1 - A2) * (A1 - A2)) := Int.mul_nonneg hnn (sq_nonneg _)
  have d2 : 0 ≤ n1 * n2 * ((B1 - B2) * (B1 - B2)) := Int.mul_nonneg hnn (sq_nonneg _)
  have c1 := Int.mul_le_mul_of_nonneg_left a (Int.mul_nonneg (show 0 ≤ n1 + n2 by omega) h1)
  have c2 := Int.mul_le_mul_of_nonneg_left b (Int.mul_nonneg (show 0 ≤ n1 + n2 by omega) h2)
  grind
/-- between two places that are near -/
theorem near_between {l : Leg} {s p q : Sp} {w n1 n2 : Int} (h : Way l) (hw : 0 ≤ w) (hp : nearLeg l p w = true) (hq : nearLeg l q w = true) (h1 : 0 ≤ n1) (h2 : 0 ≤ n2) (hn : 0 < n1 + n2) (hx : (n1 + n2) * s.1 = n1 * p.1 + n2 * q.1) (hy : (n1 + n2) * s.2 = n1 * p.2 + n2 * q.2) : nearLeg l s w = true := by
  obtain ⟨m1, -, a0, a1, a2⟩ := wit_of h hp
  obtain ⟨m2, -, b0, b1, b2⟩ := wit_of h hq
  obtain ⟨U, hU⟩ : ∃ U, unit l = U := ⟨_, rfl⟩
  rw [hU] at a1 a2 b1 b2
  obtain ⟨M, hMe⟩ : ∃ M, l.far * U = M := ⟨_, rfl⟩
  rw [hMe] at a1 b1
  refine near_of h (n := n1 + n2) (m := n1 * m1 + n2 * m2) ⟨hn, ?_, ?_, ?_⟩
  · have := Int.mul_nonneg h1 a0
    have := Int.mul_nonneg h2 b0
    omega
  · rw [hU, hMe]
    have := Int.mul_le_mul_of_nonneg_left (show m1 ≤ M by omega) h1
    have := Int.mul_le_mul_of_nonneg_left (show m2 ≤ M by omega) h2
    rw [Int.add_mul]
    omega
  · rw [hU]
    rw [comb_id hx, comb_id hy]
    have e3 : (n1 + n2) * U * w * ((n1 + n2) * U * w) = (n1 + n2) * (n1 + n2) * (1 * U * w * (1 * U * w)) := by grind
    rw [e3]
    exact sum_sq h1 h2 a2 b2
/-- a wider look -/
theorem near_wider {l : Leg} {s : Sp} {w w' : Int} (h : Way l) (h0 : 0 ≤ w) (hw : w ≤ w') (hn : nearLeg l s w = true) : nearLeg l s w' = true := by
  obtain ⟨m, a, b, c, d⟩ := wit_of h hn
  refine near_of h (n := 1) (m := m) ⟨a, b, c, Int.le_trans d ?_⟩
  have hu := h.unit
  have hU0 : 0 ≤ unit l := by omega
  refine sq_le (Int.mul_nonneg (by omega) h0) (Int.mul_le_mul_of_nonneg_left hw (by omega))
/-- the leg the other way round -/
def back (l : Leg) : Leg := { fx := l.fx + l.wx * l.far, fy := l.fy + l.wy * l.far, wx := -l.wx, wy := -l.wy, far := l.far }
theorem back_way {l : Leg} (h : Way l) : Way (back l) :=
  ⟨by have := h.x; simp only [back]; omega, by have := h.y; simp only [back]; omega, fun e => h.ne (by simp only [back] at e; omega), h.far⟩
theorem near_back {l : Leg} {s : Sp} {w : Int} (h : Way l) (hn : nearLeg l s w = true) : nearLeg (back l) s w = true := by
  obtain ⟨m, a, b, c, d⟩ := wit_of h hn
  have hu : unit (back l) = unit l := by unfold unit back; dsimp only; rw [Int.neg_mul_neg, Int.neg_mul_neg]
  refine near_of (back_way h) (n := 1) (m := l.far * unit l - m) ⟨a, by omega, by rw [hu]; simp only [back]; omega, ?_⟩
  rw [hu]
  simp only [back]
  obtain ⟨U, hU⟩ : ∃ U, unit l = U := ⟨_, rfl⟩
  rw [hU] at d ⊢
  have e1 : 1 * U * (s.1 - (l.fx + l.wx * l.far)) - (l.far * U - m) * -l.wx = 1 * U * (s.1 - l.fx) - m * l.wx := by grind
  have e2 : 1 * U * (s.2 - (l.fy + l.wy * l.far)) - (l.far * U - m) * -l.wy = 1 * U * (s.2 - l.fy) - m * l.wy := by grind
  rw [e1, e2]
  exact d
/-- a place of a square whose four corners are near -/
theorem near_square {l : Leg} {x y S px py w : Int} (h : Way l) (hw : 0 ≤ w) (hp : 0 ≤ px ∧ px ≤ S) (hq : 0 ≤ py ∧ py ≤ S)
    (c1 : nearLeg l (x, y) w = true) (c2 : nearLeg l (x + S, y) w = true) (c3 : nearLeg l (x, y + S) w = true) (c4 : nearLeg l (x + S, y + S) w = true) : nearLeg l (x + px, y + py) w = true := by
  by_cases hS : S = 0
  · subst hS
    obtain rfl : px = 0 := by omega
    obtain rfl : py = 0 := by omega
    simpa using c1
  · have r1 : nearLeg l (x + px, y) w = true := near_between h hw (n1 := S - px) (n2 := px) c1 c2 (by omega) (by omega) (by omega) (by dsimp only; grind) (by dsimp only; grind)
    have r2 : nearLeg l (x + px, y + S) w = true := near_between h hw (n1 := S - px) (n2 := px) c3 c4 (by omega) (by omega) (by omega) (by dsimp only; grind) (by dsimp only; grind)
    exact near_between h hw (n1 := S - py) (n2 := py) r1 r2 (by omega) (by omega) (by omega) (by dsimp only; grind) (by dsimp only; grind)
end Go.Proofs.Rings
/- Small legs: the numbers of package tracks without wraps. -/
namespace Go.Proofs.YtnbdnnbeiohmgaaDoor
open Go.RowKit
open Go.Proofs.Rings (Leg sg ab legOf nearLeg nearL)

theorem w64 (n : Int) (h1 : -9223372036854775808 ≤ n) (h2 : n ≤ 9223372036854775807) : wrap64 n = n := by unfold wrap64; omega
theorem okC_in {n : Int} (h : okC n = true) (h1 : -9223372036854775808 < n) (h2 : n ≤ 9223372036854775807) : -16777216 ≤ n ∧ n ≤ 16777216 := by
  unfold okC szW at h
  rw [w64 (-n) (by omega) (by omega)] at h
  split at h <;> simp at h <;> omega
theorem okC_of {n : Int} (h : -16777216 ≤ n ∧ n ≤ 16777216) : okC n = true := by
  unfold okC szW
  rw [w64 (-n) (by omega) (by omega)]
  split <;> simp <;> omega
theorem mul_in {a b A B : Int} (ha : -A ≤ a ∧ a ≤ A) (hb : -B ≤ b ∧ b ≤ B) : -(A * B) ≤ a * b ∧ a * b ≤ A * B := by
  have hA : 0 ≤ A := by omega
  have hB : 0 ≤ B := by omega
  have h1 : (a.natAbs * b.natAbs : Nat) ≤ A.natAbs * B.natAbs := Nat.mul_le_mul (by omega) (by omega)
  have h2 : ((a * b).natAbs : Int) ≤ A * B := by
    rw [Int.natAbs_mul]
    have h3 : ((A.natAbs * B.natAbs : Nat) : Int) = A * B := by rw [Int.natCast_mul, Int.natAbs_of_nonneg hA, Int.natAbs_of_nonneg hB]
    omega
  omega
theorem sq_in {a A : Int} (ha : -A ≤ a ∧ a ≤ A) : 0 ≤ a * a ∧ a * a ≤ A * A := ⟨by rw [← Int.natAbs_mul_self]; exact Int.natCast_nonneg _, (mul_in ha ha).2⟩

/-- a leg whose numbers are small -/
structure Small (l : Leg) : Prop where
  fx : -16777216 ≤ l.fx ∧ l.fx ≤ 16777216
  fy : -16777216 ≤ l.fy ∧ l.fy ≤ 16777216
  wx : l.wx = -1 ∨ l.wx = 0 ∨ l.wx = 1
  wy : l.wy = -1 ∨ l.wy = 0 ∨ l.wy = 1
  far : 0 ≤ l.far ∧ l.far ≤ 33554432

theorem distW_eq {u v w : Int} (hu : -134217728 ≤ u ∧ u ≤ 134217728) (hv : -134217728 ≤ v ∧ v ≤ 134217728) (hw : 0 ≤ w ∧ w ≤ 1048576) : distW u v w = decide (u * u + v * v ≤ w * w) := by
  have h1 := sq_in hu
  have h2 := sq_in hv
  have h3 := sq_in (a := w) (A := 1048576) (by omega)
  unfold distW
  rw [w64 (u * u) (by omega) (by omega), w64 (v * v) (by omega) (by omega), w64 (w * w) (by omega) (by omega), w64 (u * u + v * v) (by omega) (by omega)]

theorem nearW_eq {l : Leg} (h : Small l) {s : Int × Int} {w : Int} (hs1 : -16777216 ≤ s.1 ∧ s.1 ≤ 16777216) (hs2 : -16777216 ≤ s.2 ∧ s.2 ≤ 16777216) (hw : 0 ≤ w ∧ w ≤ 1048576) : nearW l s w = nearLeg l s w := by
  obtain ⟨fx, fy, wx, wy, far⟩ := l
  obtain ⟨hfx, hfy, hwx, hwy, hfar⟩ := h
  obtain ⟨sx, sy⟩ := s
  dsimp only at *
  have eu : wrap64 (sx - fx) = sx - fx := w64 _ (by omega) (by omega)
  have ev : wrap64 (sy - fy) = sy - fy := w64 _ (by omega) (by omega)
  have e1 : aheadW ⟨fx, fy, wx, wy, far⟩ (sx, sy) = (sx - fx) * wx + (sy - fy) * wy := by
    unfold aheadW
    dsimp only
    rw [eu, ev]
    rcases hwx with rfl | rfl | rfl <;> rcases hwy with rfl | rfl | rfl <;> (unfold wrap64; omega)
  have e2 : asideW ⟨fx, fy, wx, wy, far⟩ (sx, sy) = (sy - fy) * wx - (sx - fx) * wy := by
    unfold asideW
    dsimp only
    rw [eu, ev]
    rcases hwx with rfl | rfl | rfl <;> rcases hwy with rfl | rfl | rfl <;> (unfold wrap64; omega)
  have e3 : unitW ⟨fx, fy, wx, wy, far⟩ = wx * wx + wy * wy := by
    rcases hwx with rfl | rfl | rfl <;> rcases hwy with rfl | rfl | rfl <;> (unfold unitW; dsimp only; decide +kernel)
  have e4 : shW fx wx far = fx + wx * far := by
    unfold shW
    rcases hwx with rfl | rfl | rfl <;> (unfold wrap64; omega)
  have e5 : shW fy wy far = fy + wy * far := by
    unfold shW
    rcases hwy with rfl | rfl | rfl <;> (unfold wrap64; omega)
  have b1 : -67108864 ≤ (sy - fy) * wx - (sx - fx) * wy ∧ (sy - fy) * wx - (sx - fx) * wy ≤ 67108864 := by
    rcases hwx with rfl | rfl | rfl <;> rcases hwy with rfl | rfl | rfl <;> omega
  have b2 : 0 ≤ wx * wx + wy * wy ∧ wx * wx + wy * wy ≤ 2 := by
    rcases hwx with rfl | rfl | rfl <;> rcases hwy with rfl | rfl | rfl <;> decide
  have b3 : -50331648 ≤ fx + wx * far ∧ fx + wx * far ≤ 50331648 := by
    rcases hwx with rfl | rfl | rfl <;> omega
  have b4 : -50331648 ≤ fy + wy * far ∧ fy + wy * far ≤ 50331648 := by
    rcases hwy with rfl | rfl | rfl <;> omega
  unfold nearW nearLeg nearL
  rw [e1, e2, e3]
  dsimp only
  rw [e4, e5, eu, ev]
  generalize (sx - fx) * wx + (sy - fy) * wy = ah
  generalize (sy - fy) * wx - (sx - fx) * wy = sd at *
  generalize wx * wx + wy * wy = un at *
  generalize fx + wx * far = ex at *
  generalize fy + wy * far = ey at *
  have c1 := mul_in (a := far) (b := un) (A := 33554432) (B := 2) (by omega) (by omega)
  have c2 := sq_in b1
  have c3 := mul_in (a := un) (b := w) (A := 2) (B := 1048576) (by omega) (by omega)
  have c4 := mul_in (a := un * w) (b := w) (A := 2 * 1048576) (B := 1048576) (by omega) (by omega)
  rw [distW_eq (by omega) (by omega) hw, w64 (far * un) (by omega) (by omega), w64 (sd * sd) (by omega) (by omega), w64 (un * w) (by omega) (by omega), w64 (un * w * w) (by omega) (by omega),
    w64 (sx - ex) (by omega) (by omega), w64 (sy - ey) (by omega) (by omega), distW_eq (by omega) (by omega) hw]

/-- a leg between two valid spots -/
theorem legW_eq {a b : Int × Int} (ha1 : -16777216 ≤ a.1 ∧ a.1 ≤ 16777216) (ha2 : -16777216 ≤ a.2 ∧ a.2 ≤ 16777216) (hb1 : -16777216 ≤ b.1 ∧ b.1 ≤ 16777216) (hb2 : -16777216 ≤ b.2 ∧ b.2 ≤ 16777216) :
    legW a b = legOf a b ∧ Small (legW a b) := by
  have s1 : ∀ n, -33554432 ≤ n ∧ n ≤ 33554432 → szW n = ab n := by
    intro n hn
    unfold szW ab
    rw [w64 (-n) (by omega) (by omega)]
    split <;> split <;> omega
  have s2 : ∀ n, -33554432 ≤ n ∧ n ≤ 33554432 → 0 ≤ ab n ∧ ab n ≤ 33554432 := by intro n hn; unfold ab; split <;> omega
  have s3 : ∀ n, sg n = -1 ∨ sg n = 0 ∨ sg n = 1 := by
    intro n
    unfold sg
    split
    · simp
    · split <;> simp
  have e1 : wrap64 (b.1 - a.1) = b.1 - a.1 := w64 _ (by omega) (by omega)
  have e2 : wrap64 (b.2 - a.2) = b.2 - a.2 := w64 _ (by omega) (by omega)
  have e : legW a b = legOf a b := by
    unfold legW legOf
    rw [e1, e2, s1 _ (by omega), s1 _ (by omega)]
  refine ⟨e, ?_⟩
  rw [e]
  have t1 := s2 (b.1 - a.1) (by omega)
  have t2 := s2 (b.2 - a.2) (by omega)
  refine ⟨ha1, ha2, s3 _, s3 _, ?_⟩
  unfold legOf
  dsimp only
  split <;> omega

theorem shW_eq {x u n : Int} (hu : u = -1 ∨ u = 0 ∨ u = 1) (hx : -1099511627776 ≤ x ∧ x ≤ 1099511627776) (hn : -1099511627776 ≤ n ∧ n ≤ 1099511627776) : shW x u n = x + u * n := by
  unfold shW
  rcases hu with rfl | rfl | rfl <;> (unfold wrap64; omega)

end Go.Proofs.YtnbdnnbeiohmgaaDoor
/- TracksReach: the plain law: which cells the legs of a track cover. -/
namespace Go.Proofs.YtnbdnnbeiohmgaaDoor
open Go.RowKit
open Go.Proofs.Rings (Leg sg ab legOf nearLeg nearL Way)

/-- the cells of a row that Covers looks at, for a leg -/
def inRng (f e w S n i : Int) : Bool := decide (max 0 (wrap64 ((wrap64 (min f e - w)).tdiv S - 1)) ≤ i) && decide (i ≤ min (wrap64 (n - 1)) (wrap64 ((wrap64 (max f e + w)).tdiv S + 1)))
/-- leg.covers -/
def covA (l : Leg) (S w cx cy : Int) : Bool :=
  nearW l (shW (wrap64 (cx * S)) 0 (wrap64 (S - 1)), shW (wrap64 (cy * S)) 0 (wrap64 (S - 1))) w && nearW l (shW (wrap64 (cx * S)) 1 (wrap64 (S - 1)), shW (wrap64 (cy * S)) 0 (wrap64 (S - 1))) w &&
  nearW l (shW (wrap64 (cx * S)) 0 (wrap64 (S - 1)), shW (wrap64 (cy * S)) 1 (wrap64 (S - 1))) w && nearW l (shW (wrap64 (cx * S)) 1 (wrap64 (S - 1)), shW (wrap64 (cy * S)) 1 (wrap64 (S - 1))) w
def covL (W H S w : Int) (l : Leg) (cx cy : Int) : Bool := inRng l.fx (shW l.fx l.wx l.far) w S W cx && inRng l.fy (shW l.fy l.wy l.far) w S H cy && covA l S w cx cy
def cov (W H S w : Int) (l : List (Int × Int)) (cx cy : Int) : Bool := (legsW l).any fun x => covL W H S w x cx cy

def i64 (n : Int) : Prop := -9223372036854775808 ≤ n ∧ n ≤ 9223372036854775807
def m63 : Int := -9223372036854775808
theorem okC_or {n : Int} (h : okC n = true) (hn : i64 n) : n = -9223372036854775808 ∨ (-16777216 ≤ n ∧ n ≤ 16777216) := by
  by_cases e : n = -9223372036854775808
  · exact .inl e
  · exact .inr (okC_in h (by unfold i64 at hn; omega) hn.2)
theorem sg_or (n : Int) : (sg n = -1 ∧ n < 0) ∨ (sg n = 0 ∧ n = 0) ∨ (sg n = 1 ∧ 0 < n) := by
  unfold sg
  split
  · left; omega
  · split
    · right; left; omega
    · right; right; omega
theorem szW_or {n : Int} (h : i64 n) : (n = -9223372036854775808 ∧ szW n = n) ∨ (n ≠ -9223372036854775808 ∧ 0 ≤ n ∧ szW n = n) ∨ (n ≠ -9223372036854775808 ∧ n < 0 ∧ szW n = -n) := by
  unfold i64 at h
  unfold szW
  by_cases e : n = -9223372036854775808
  · left
    subst e
    decide +kernel
  · rw [w64 (-n) (by omega) (by omega)]
    split <;> omega
theorem wrap_i64 (n : Int) : i64 (wrap64 n) := by
  unfold i64 wrap64
  omega

/-- a leg ends at the next spot -/
theorem leg_end {a b : Int × Int} (ha : i64 a.1 ∧ i64 a.2) (hb : i64 b.1 ∧ i64 b.2) (hf : (legW a b).far ≠ 0) : shW a.1 (legW a b).wx (legW a b).far = b.1 ∧ shW a.2 (legW a b).wy (legW a b).far = b.2 := by
  obtain ⟨a1, a2⟩ := a
  obtain ⟨b1, b2⟩ := b
  obtain ⟨⟨x1, x2⟩, y1, y2⟩ := ha
  obtain ⟨⟨z1, z2⟩, t1, t2⟩ := hb
  dsimp only at *
  unfold legW at hf ⊢
  dsimp only at *
  obtain ⟨u, hu⟩ : ∃ u, wrap64 (b1 - a1) = u := ⟨_, rfl⟩
  obtain ⟨v, hv⟩ : ∃ v, wrap64 (b2 - a2) = v := ⟨_, rfl⟩
  have iu : i64 u := by rw [← hu]; exact wrap_i64 _
  have iv : i64 v := by rw [← hv]; exact wrap_i64 _
  rw [hu, hv] at hf ⊢
  have su := szW_or iu
  have sv := szW_or iv
  have gu := sg_or u
  have gv := sg_or v
  unfold i64 at iu iv
  have key : ∀ (p d g f q : Int), wrap64 (q - p) = d → (g = -1 ∧ d < 0) ∨ (g = 0 ∧ d = 0) ∨ (g = 1 ∧ 0 < d) → -9223372036854775808 ≤ q ∧ q ≤ 9223372036854775807 → (d ≠ 0 → (d = -9223372036854775808 ∧ f = d) ∨ (f = d ∧ 0 ≤ d) ∨ (f = -d ∧ d < 0)) → shW p g f = q := by
    intro p d g f q h1 h2 h3 h4
    unfold shW wrap64 at *
    rcases h2 with ⟨rfl, h⟩ | ⟨rfl, h⟩ | ⟨rfl, h⟩
    · rcases h4 (by omega) with h | h | h <;> omega
    · omega
    · rcases h4 (by omega) with h | h | h <;> omega
  split at hf
  · exact absurd rfl hf
  · rename_i hn
    rw [if_neg hn]
    refine ⟨key a1 u _ _ b1 hu gu ⟨z1, z2⟩ (fun h => ?_), key a2 v _ _ b2 hv gv ⟨t1, t2⟩ (fun h => ?_)⟩
    · by_cases hv0 : v = 0
      · subst hv0
        have s0 : szW 0 = 0 := by decide +kernel
        rw [s0] at hf ⊢
        omega
      · have he : szW u = szW v := by
          by_cases e : szW u = szW v
          · exact e
          · exact absurd ⟨h, hv0, e⟩ hn
        omega
    · by_cases hu0 : u = 0
      · subst hu0
        have s0 : szW 0 = 0 := by decide +kernel
        rw [s0] at hf ⊢
        omega
      · have he : szW u = szW v := by
          by_cases e : szW u = szW v
          · exact e
          · exact absurd ⟨hu0, h, e⟩ hn
        omega

theorem cells_tdiv {x S : Int} (hS : 1 ≤ S ∧ S ≤ 50000) (hx : 20000000 ≤ x) (hx2 : x ≤ 9223372036854775807) : 300 ≤ x.tdiv S ∧ x.tdiv S ≤ 9223372036854775807 := by
  rw [Int.tdiv_eq_ediv_of_nonneg (by omega)]
  have h2 := Int.ediv_le_self S (show 0 ≤ x by omega)
  exact ⟨(Int.le_ediv_iff_mul_le (by omega)).2 (by omega), by omega⟩
/-- beside the least int there is nothing to look at, unless the width is 0 and cells are more than a place wide -/
theorem rng_none {f e w S n i : Int} (hS : 1 ≤ S ∧ S ≤ 50000) (hw : 0 ≤ w ∧ w ≤ 1048576) (hn : 1 ≤ n ∧ n ≤ 256) (hf : f = -9223372036854775808 ∨ e = -9223372036854775808) (hi : i64 f ∧ i64 e) (h : inRng f e w S n i = true) : w = 0 ∧ 2 ≤ S := by
  obtain ⟨⟨f1, f2⟩, e1, e2⟩ := hi
  have hm : min f e = -9223372036854775808 := by omega
  unfold inRng at h
  rw [hm] at h
  simp only [Bool.and_eq_true, decide_eq_true_eq] at h
  rw [w64 (n - 1) (by omega) (by omega)] at h
  by_cases hw0 : w = 0
  · refine ⟨hw0, ?_⟩
    subst hw0
    by_cases hS1 : S = 1
    · exfalso
      subst hS1
      have k1 : wrap64 (-9223372036854775808 - 0) = -9223372036854775808 := by decide +kernel
      have k2 : wrap64 ((-9223372036854775808 : Int).tdiv 1 - 1) = 9223372036854775807 := by decide +kernel
      rw [k1, k2] at h
      omega
    · omega
  · exfalso
    have k1 : wrap64 (-9223372036854775808 - w) = 9223372036854775808 - w := by unfold wrap64; omega
    rw [k1] at h
    have k2 := cells_tdiv (x := 9223372036854775808 - w) hS (by omega) (by omega)
    rw [w64 ((9223372036854775808 - w).tdiv S - 1) (by omega) (by omega)] at h
    omega

/-- a number, the least int taken as 0 -/
def red (n : Int) : Int := if n = -9223372036854775808 then 0 else n
theorem red_in {n : Int} (h : n = -9223372036854775808 ∨ (-16777216 ≤ n ∧ n ≤ 16777216)) : -16777216 ≤ red n ∧ red n ≤ 16777216 := by
  unfold red
  split <;> omega
/-- what a difference is, but for the half of all ints -/
theorem red_diff {s n : Int} (h : n = -9223372036854775808 ∨ (-16777216 ≤ n ∧ n ≤ 16777216)) (hs : 0 ≤ s ∧ s ≤ 20000000) : wrap64 (s - n) = s - red n ∨ wrap64 (s - n) = s - red n - 9223372036854775808 := by
  unfold red
  rcases h with rfl | h
  · right
    unfold wrap64
    simp
    omega
  · left
    rw [if_neg (by omega)]
    exact w64 _ (by omega) (by omega)
/-- the square of a number is that of one that is half of all ints off -/
theorem sq_red {x d : Int} (hd : -100000000 ≤ d ∧ d ≤ 100000000) (h : x = d ∨ x = d - 9223372036854775808 ∨ x = d + 9223372036854775808) : wrap64 (x * x) = d * d := by
  have hq := sq_in hd
  rcases h with rfl | rfl | rfl
  · exact w64 _ (by omega) (by omega)
  · rw [show (d - 9223372036854775808) * (d - 9223372036854775808) = d * d - 18446744073709551616 * d + 85070591730234615865843651857942052864 by grind]
    unfold wrap64
    omega
  · rw [show (d + 9223372036854775808) * (d + 9223372036854775808) = d * d + 18446744073709551616 * d + 85070591730234615865843651857942052864 by grind]
    unfold wrap64
    omega
theorem sq_zero {d : Int} (h : d * d ≤ 0) : d = 0 := by
  rcases Int.lt_trichotomy d 0 with k | k | k
  · have := Int.mul_pos_of_neg_of_neg k k; omega
  · exact k
  · have := Int.mul_pos k k; omega

theorem red_dif2 {m n : Int} (hm : m = -9223372036854775808 ∨ (-16777216 ≤ m ∧ m ≤ 16777216)) (hn : n = -9223372036854775808 ∨ (-16777216 ≤ n ∧ n ≤ 16777216)) :
    wrap64 (m - n) = red m - red n ∨ wrap64 (m - n) = red m - red n - 9223372036854775808 ∨ wrap64 (m - n) = red m - red n + 9223372036854775808 := by
  unfold red
  rcases hm with rfl | hm
  · rcases hn with rfl | hn
    · left; decide +kernel
    · rw [if_pos rfl, if_neg (by omega)]
      unfold wrap64
      omega
  · rcases hn with rfl | hn
    · rw [if_pos rfl, if_neg (by omega)]
      unfold wrap64
      omega
    · rw [if_neg (by omega), if_neg (by omega)]
      left
      exact w64 _ (by omega) (by omega)
theorem ends_line {a b : Int × Int} (ha : i64 a.1 ∧ i64 a.2) (hb : i64 b.1 ∧ i64 b.2) (oa : okS a = true) (ob : okS b = true) (hf : (legW a b).far ≠ 0) : (red b.2 - red a.2) * (legW a b).wx = (red b.1 - red a.1) * (legW a b).wy := by
  simp only [okS, Bool.and_eq_true] at oa ob
  have a1 := okC_or oa.1 ha.1
  have a2 := okC_or oa.2 ha.2
  have b1 := okC_or ob.1 hb.1
  have b2 := okC_or ob.2 hb.2
  have ra1 := red_in a1
  have ra2 := red_in a2
  have rb1 := red_in b1
  have rb2 := red_in b2
  have d1 := red_dif2 b1 a1
  have d2 := red_dif2 b2 a2
  unfold legW at hf ⊢
  dsimp only at *
  obtain ⟨u, hu⟩ : ∃ u, wrap64 (b.1 - a.1) = u := ⟨_, rfl⟩
  obtain ⟨v, hv⟩ : ∃ v, wrap64 (b.2 - a.2) = v := ⟨_, rfl⟩
  have su := szW_or (n := u) (by rw [← hu]; exact wrap_i64 _)
  have sv := szW_or (n := v) (by rw [← hv]; exact wrap_i64 _)
  rw [hu, hv] at hf ⊢
  rw [hu] at d1
  rw [hv] at d2
  obtain ⟨D1, hD1⟩ : ∃ D, red b.1 - red a.1 = D := ⟨_, rfl⟩
  obtain ⟨D2, hD2⟩ : ∃ D, red b.2 - red a.2 = D := ⟨_, rfl⟩
  rw [hD1] at d1 ⊢
  rw [hD2] at d2 ⊢
  have B1 : -33554432 ≤ D1 ∧ D1 ≤ 33554432 := by omega
  have B2 : -33554432 ≤ D2 ∧ D2 ≤ 33554432 := by omega
  have he : u ≠ 0 → v ≠ 0 → szW u = szW v := fun h1 h2 => by
    by_cases e : szW u = szW v
    · exact e
    · rw [if_pos ⟨h1, h2, e⟩] at hf
      exact absurd rfl hf
  clear hf hu hv hD1 hD2 a1 a2 b1 b2 ra1 ra2 rb1 rb2
  rcases sg_or u with ⟨g, h⟩ | ⟨g, h⟩ | ⟨g, h⟩ <;> rcases sg_or v with ⟨k, j⟩ | ⟨k, j⟩ | ⟨k, j⟩ <;> rw [g, k]
  · have := he (by omega) (by omega); omega
  · subst j; omega
  · have := he (by omega) (by omega); omega
  · subst h; omega
  · subst h; omega
  · subst h; omega
  · have := he (by omega) (by omega); omega
  · subst j; omega
  · have := he (by omega) (by omega); omega
/-- with the width 0, what is near lies on the leg's line -/
theorem line_of {a b : Int × Int} {s : Int × Int} (ha : i64 a.1 ∧ i64 a.2) (hb : i64 b.1 ∧ i64 b.2) (oa : okS a = true) (ob : okS b = true) (hf : (legW a b).far ≠ 0) (h1 : 0 ≤ s.1 ∧ s.1 ≤ 20000000) (h2 : 0 ≤ s.2 ∧ s.2 ≤ 20000000) (hn : nearW (legW a b) s 0 = true) :
    (s.2 - red a.2) * (legW a b).wx = (s.1 - red a.1) * (legW a b).wy := by
  have he := leg_end ha hb hf
  simp only [okS, Bool.and_eq_true] at oa ob
  have a1 := okC_or oa.1 ha.1
  have a2 := okC_or oa.2 ha.2
  have b1 := okC_or ob.1 hb.1
  have b2 := okC_or ob.2 hb.2
  have ra1 := red_in a1
  have ra2 := red_in a2
  have rb1 := red_in b1
  have rb2 := red_in b2
  have d1 := red_diff a1 h1
  have d2 := red_diff a2 h2
  have c1 := red_diff b1 h1
  have c2 := red_diff b2 h2
  have gx := sg_or (wrap64 (b.1 - a.1))
  have gy := sg_or (wrap64 (b.2 - a.2))
  have ex : (legW a b).wx = sg (wrap64 (b.1 - a.1)) := rfl
  have ey : (legW a b).wy = sg (wrap64 (b.2 - a.2)) := rfl
  have fx : (legW a b).fx = a.1 := rfl
  have fy : (legW a b).fy = a.2 := rfl
  unfold nearW at hn
  rw [fx, fy, he.1, he.2] at hn
  split at hn
  · -- the first spot
    unfold distW at hn
    rw [sq_red (d := s.1 - red a.1) (by omega) (by omega), sq_red (d := s.2 - red a.2) (by omega) (by omega)] at hn
    have q1 := sq_in (a := s.1 - red a.1) (A := 100000000) (by omega)
    have q2 := sq_in (a := s.2 - red a.2) (A := 100000000) (by omega)
    have z : wrap64 (0 * 0) = 0 := by decide +kernel
    rw [w64 _ (by omega) (by omega), z, decide_eq_true_eq] at hn
    have z1 := sq_zero (d := s.1 - red a.1) (by omega)
    have z2 := sq_zero (d := s.2 - red a.2) (by omega)
    rw [z1, z2]
    simp
  · split at hn
    · -- the last spot
      unfold distW at hn
      rw [sq_red (d := s.1 - red b.1) (by omega) (by omega), sq_red (d := s.2 - red b.2) (by omega) (by omega)] at hn
      have q1 := sq_in (a := s.1 - red b.1) (A := 100000000) (by omega)
      have q2 := sq_in (a := s.2 - red b.2) (A := 100000000) (by omega)
      have z : wrap64 (0 * 0) = 0 := by decide +kernel
      rw [w64 _ (by omega) (by omega), z, decide_eq_true_eq] at hn
      have z1 := sq_zero (d := s.1 - red b.1) (by omega)
      have z2 := sq_zero (d := s.2 - red b.2) (by omega)
      have := ends_line ha hb (by simp only [okS, Bool.and_eq_true]; exact oa) (by simp only [okS, Bool.and_eq_true]; exact ob) hf
      rw [show s.1 = red b.1 by omega, show s.2 = red b.2 by omega]
      exact this
    · -- between
      obtain ⟨A, hA⟩ : ∃ A, (s.2 - red a.2) * (legW a b).wx - (s.1 - red a.1) * (legW a b).wy = A := ⟨_, rfl⟩
      have hside : asideW (legW a b) s = A ∨ asideW (legW a b) s = A - 9223372036854775808 ∨ asideW (legW a b) s = A + 9223372036854775808 := by
        unfold asideW
        rw [← hA, fx, fy, ex, ey]
        obtain ⟨u, hu⟩ : ∃ u, wrap64 (s.1 - a.1) = u := ⟨_, rfl⟩
        obtain ⟨v, hv⟩ : ∃ v, wrap64 (s.2 - a.2) = v := ⟨_, rfl⟩
        rw [hu] at d1 ⊢
        rw [hv] at d2 ⊢
        rcases gx with ⟨g, -⟩ | ⟨g, -⟩ | ⟨g, -⟩ <;> rcases gy with ⟨k, -⟩ | ⟨k, -⟩ | ⟨k, -⟩ <;> rw [g, k] <;> unfold wrap64 <;> omega
      have hAb : -100000000 ≤ A ∧ A ≤ 100000000 := by
        rw [← hA, ex, ey]
        rcases gx with ⟨g, -⟩ | ⟨g, -⟩ | ⟨g, -⟩ <;> rcases gy with ⟨k, -⟩ | ⟨k, -⟩ | ⟨k, -⟩ <;> rw [g, k] <;> omega
      rw [sq_red hAb hside] at hn
      have z : wrap64 (wrap64 (unitW (legW a b) * 0) * 0) = 0 := by
        rw [Int.mul_zero]
        decide +kernel
      rw [z, decide_eq_true_eq] at hn
      have := sq_zero (d := A) (by omega)
      omega
/-- a leg with an end at the least int covers nothing -/
theorem cov_none {a b : Int × Int} {W H S w cx cy : Int} (hW : 1 ≤ W ∧ W ≤ 256) (hH : 1 ≤ H ∧ H ≤ 256) (hS : 1 ≤ S ∧ S ≤ 50000) (hw : 0 ≤ w ∧ w ≤ 1048576) (ha : i64 a.1 ∧ i64 a.2) (hb : i64 b.1 ∧ i64 b.2) (oa : okS a = true) (ob : okS b = true) (hf : (legW a b).far ≠ 0)
    (hx : (a.1 = -9223372036854775808 ∨ b.1 = -9223372036854775808) ∨ (a.2 = -9223372036854775808 ∨ b.2 = -9223372036854775808)) : covL W H S w (legW a b) cx cy = false := by
  cases hc : covL W H S w (legW a b) cx cy with
  | false => rfl
  | true =>
    exfalso
    have he := leg_end ha hb hf
    unfold covL at hc
    rw [show (legW a b).fx = a.1 from rfl, show (legW a b).fy = a.2 from rfl, he.1, he.2, Bool.and_eq_true, Bool.and_eq_true] at hc
    obtain ⟨⟨r1, r2⟩, hcv⟩ := hc
    have hw0 : w = 0 ∧ 2 ≤ S := by
      rcases hx with h | h
      · exact rng_none hS hw hW h ⟨ha.1, hb.1⟩ r1
      · exact rng_none hS hw hH h ⟨ha.2, hb.2⟩ r2
    obtain ⟨rfl, hS2⟩ := hw0
    unfold inRng at r1 r2
    simp only [Bool.and_eq_true, decide_eq_true_eq] at r1 r2
    rw [w64 (W - 1) (by omega) (by omega)] at r1
    rw [w64 (H - 1) (by omega) (by omega)] at r2
    have m1 : 0 ≤ cx * S ∧ cx * S ≤ 12750000 := ⟨Int.mul_nonneg (by omega) (by omega), by have := Int.mul_le_mul (show cx ≤ 255 by omega) hS.2 (by omega) (by omega); omega⟩
    have m2 : 0 ≤ cy * S ∧ cy * S ≤ 12750000 := ⟨Int.mul_nonneg (by omega) (by omega), by have := Int.mul_le_mul (show cy ≤ 255 by omega) hS.2 (by omega) (by omega); omega⟩
    unfold covA at hcv
    obtain ⟨X, hX⟩ : ∃ X, cx * S = X := ⟨_, rfl⟩
    obtain ⟨Y, hY⟩ : ∃ Y, cy * S = Y := ⟨_, rfl⟩
    rw [hX] at m1 hcv
    rw [hY] at m2 hcv
    rw [w64 X (by omega) (by omega), w64 Y (by omega) (by omega), w64 (S - 1) (by omega) (by omega)] at hcv
    have e0 : ∀ x : Int, 0 ≤ x ∧ x ≤ 12750000 → shW x 0 (S - 1) = x := fun x h => by unfold shW wrap64; omega
    have e1 : ∀ x : Int, 0 ≤ x ∧ x ≤ 12750000 → shW x 1 (S - 1) = x + (S - 1) := fun x h => by unfold shW wrap64; omega
    rw [e0 X m1, e1 X m1, e0 Y m2, e1 Y m2] at hcv
    simp only [Bool.and_eq_true] at hcv
    obtain ⟨⟨⟨n1, n2⟩, n3⟩, -⟩ := hcv
    have l1 := line_of ha hb oa ob hf (by dsimp only; omega) (by dsimp only; omega) n1
    have l2 := line_of ha hb oa ob hf (by dsimp only; omega) (by dsimp only; omega) n2
    have l3 := line_of ha hb oa ob hf (by dsimp only; omega) (by dsimp only; omega) n3
    dsimp only at l1 l2 l3
    have hne : ¬ ((legW a b).wx = 0 ∧ (legW a b).wy = 0) := fun h => by
      apply hf
      have z1 : wrap64 (b.1 - a.1) = 0 := by
        rcases sg_or (wrap64 (b.1 - a.1)) with ⟨g, k⟩ | ⟨g, k⟩ | ⟨g, k⟩
        · have := h.1; rw [show (legW a b).wx = sg (wrap64 (b.1 - a.1)) from rfl, g] at this; omega
        · exact k
        · have := h.1; rw [show (legW a b).wx = sg (wrap64 (b.1 - a.1)) from rfl, g] at this; omega
      have z2 : wrap64 (b.2 - a.2) = 0 := by
        rcases sg_or (wrap64 (b.2 - a.2)) with ⟨g, k⟩ | ⟨g, k⟩ | ⟨g, k⟩
        · have := h.2; rw [show (legW a b).wy = sg (wrap64 (b.2 - a.2)) from rfl, g] at this; omega
        · exact k
        · have := h.2; rw [show (legW a b).wy = sg (wrap64 (b.2 - a.2)) from rfl, g] at this; omega
      unfold legW
      dsimp only
      rw [z1, z2]
      decide +kernel
    have gx := sg_or (wrap64 (b.1 - a.1))
    have gy := sg_or (wrap64 (b.2 - a.2))
    rw [show (legW a b).wx = sg (wrap64 (b.1 - a.1)) from rfl, show (legW a b).wy = sg (wrap64 (b.2 - a.2)) from rfl] at l1 l2 l3 hne
    rcases gx with ⟨g, -⟩ | ⟨g, -⟩ | ⟨g, -⟩ <;> rcases gy with ⟨k, -⟩ | ⟨k, -⟩ | ⟨k, -⟩ <;> rw [g, k] at l1 l2 l3 hne <;> omega
end Go.Proofs.YtnbdnnbeiohmgaaDoor
/- TracksReach: the plain law: covered cells are near; a wider look; backwards. -/
namespace Go.Proofs.YtnbdnnbeiohmgaaDoor
open Go.RowKit
open Go.Proofs.Rings (Leg sg ab legOf nearLeg nearL)

/-- the grid and the width -/
structure Sea4 (W H S w : Int) : Prop where
  W : 1 ≤ W ∧ W ≤ 256
  H : 1 ≤ H ∧ H ≤ 256
  S : 1 ≤ S ∧ S ≤ 50000
  w : 0 ≤ w ∧ w ≤ 1048576
/-- two spots next to each other on a valid track -/
structure Pair (a b : Int × Int) : Prop where
  ia : i64 a.1 ∧ i64 a.2
  ib : i64 b.1 ∧ i64 b.2
  oa : okS a = true
  ob : okS b = true
  far : (legW a b).far ≠ 0
def SmallP (a : Int × Int) : Prop := (-16777216 ≤ a.1 ∧ a.1 ≤ 16777216) ∧ (-16777216 ≤ a.2 ∧ a.2 ≤ 16777216)
theorem pair_or {a b : Int × Int} (h : Pair a b) : (SmallP a ∧ SmallP b) ∨ ((a.1 = -9223372036854775808 ∨ b.1 = -9223372036854775808) ∨ (a.2 = -9223372036854775808 ∨ b.2 = -9223372036854775808)) := by
  have oa := h.oa
  have ob := h.ob
  simp only [okS, Bool.and_eq_true] at oa ob
  have a1 := okC_or oa.1 h.ia.1
  have a2 := okC_or oa.2 h.ia.2
  have b1 := okC_or ob.1 h.ib.1
  have b2 := okC_or ob.2 h.ib.2
  unfold SmallP
  omega
theorem sg_neg (n : Int) : sg (-n) = -sg n := by
  unfold sg
  split <;> split <;> first | omega | (split <;> omega)
theorem ab_neg (n : Int) : ab (-n) = ab n := by
  unfold ab
  split <;> split <;> omega
theorem sg_ab (n : Int) : sg n * ab n = n := by
  unfold sg ab
  split
  · omega
  · split <;> omega
/-- the leg back -/
theorem legOf_back {a b : Int × Int} (hf : (legOf a b).far ≠ 0) : legOf b a = Rings.back (legOf a b) := by
  have e1 : a.1 - b.1 = -(b.1 - a.1) := by omega
  have e2 : a.2 - b.2 = -(b.2 - a.2) := by omega
  unfold legOf Rings.back at *
  dsimp only at *
  rw [e1, e2, sg_neg, sg_neg, ab_neg, ab_neg]
  obtain ⟨u, hu⟩ : ∃ u, b.1 - a.1 = u := ⟨_, rfl⟩
  obtain ⟨v, hv⟩ : ∃ v, b.2 - a.2 = v := ⟨_, rfl⟩
  rw [hu, hv] at hf ⊢
  have hc : (-u ≠ 0 ∧ -v ≠ 0 ∧ ab u ≠ ab v) ↔ (u ≠ 0 ∧ v ≠ 0 ∧ ab u ≠ ab v) := by
    constructor
    · rintro ⟨h1, h2, h3⟩; exact ⟨by omega, by omega, h3⟩
    · rintro ⟨h1, h2, h3⟩; exact ⟨by omega, by omega, h3⟩
  split at hf
  · exact absurd rfl hf
  · rename_i hn
    rw [if_neg (fun h => hn (hc.1 h)), if_neg hn]
    have hab : ∀ n, 0 ≤ ab n ∧ (n = 0 → ab n = 0) := fun n => by unfold ab; split <;> omega
    have hxu := hab u
    have hxv := hab v
    have fx : a.1 + sg u * max (ab u) (ab v) = b.1 := by
      by_cases h0 : u = 0
      · rw [h0]; have : sg 0 = 0 := by decide
        rw [this]; omega
      · have : max (ab u) (ab v) = ab u := by
          by_cases h1 : v = 0
          · have := hxv.2 h1; omega
          · by_cases h2 : ab u = ab v
            · omega
            · exact absurd ⟨h0, h1, h2⟩ hn
        rw [this, sg_ab]; omega
    have fy : a.2 + sg v * max (ab u) (ab v) = b.2 := by
      by_cases h0 : v = 0
      · rw [h0]; have : sg 0 = 0 := by decide
        rw [this]; omega
      · have : max (ab u) (ab v) = ab v := by
          by_cases h1 : u = 0
          · have := hxu.2 h1; omega
          · by_cases h2 : ab u = ab v
            · omega
            · exact absurd ⟨h1, h0, h2⟩ hn
        rw [this, sg_ab]; omega
    rw [fx, fy]
theorem leg_way {a b : Int × Int} (hs : Small (legW a b)) (hf : (legW a b).far ≠ 0) : Rings.Way (legW a b) := by
  refine ⟨hs.wx, hs.wy, fun h => hf ?_, by have := hs.far; omega⟩
  have z1 : wrap64 (b.1 - a.1) = 0 := by
    have h1 := h.1
    rw [show (legW a b).wx = sg (wrap64 (b.1 - a.1)) from rfl] at h1
    rcases sg_or (wrap64 (b.1 - a.1)) with ⟨g, k⟩ | ⟨g, k⟩ | ⟨g, k⟩ <;> omega
  have z2 : wrap64 (b.2 - a.2) = 0 := by
    have h1 := h.2
    rw [show (legW a b).wy = sg (wrap64 (b.2 - a.2)) from rfl] at h1
    rcases sg_or (wrap64 (b.2 - a.2)) with ⟨g, k⟩ | ⟨g, k⟩ | ⟨g, k⟩ <;> omega
  unfold legW
  dsimp only
  rw [z1, z2]
  decide +kernel

/-- a corner's numbers -/
theorem corner {S c n : Int} (hS : 1 ≤ S ∧ S ≤ 50000) (hn : 1 ≤ n ∧ n ≤ 256) (hc : 0 ≤ c ∧ c ≤ n - 1) : (0 ≤ c * S ∧ c * S + S ≤ 12800000) ∧ shW (wrap64 (c * S)) 0 (wrap64 (S - 1)) = c * S ∧ shW (wrap64 (c * S)) 1 (wrap64 (S - 1)) = c * S + (S - 1) := by
  have m0 : 0 ≤ c * S := Int.mul_nonneg (by omega) (by omega)
  have m1 : (c + 1) * S ≤ 12800000 := by have := Int.mul_le_mul (show c + 1 ≤ 256 by omega) hS.2 (by omega) (by omega); omega
  rw [Int.add_mul] at m1
  obtain ⟨X, hX⟩ : ∃ X, c * S = X := ⟨_, rfl⟩
  rw [hX] at m0 m1 ⊢
  rw [w64 X (by omega) (by omega), w64 (S - 1) (by omega) (by omega)]
  refine ⟨by omega, ?_, ?_⟩ <;> (unfold shW wrap64; omega)
theorem rng_in {f e w S n i : Int} (hn : 1 ≤ n ∧ n ≤ 256) (h : inRng f e w S n i = true) : 0 ≤ i ∧ i ≤ n - 1 := by
  unfold inRng at h
  simp only [Bool.and_eq_true, decide_eq_true_eq] at h
  rw [w64 (n - 1) (by omega) (by omega)] at h
  omega
theorem rng_wider {f e w w' S n i : Int} (hS : 1 ≤ S ∧ S ≤ 50000) (hf : -16777216 ≤ f ∧ f ≤ 16777216) (he : -16777216 ≤ e ∧ e ≤ 16777216) (hw : 0 ≤ w) (hww : w ≤ w') (hw' : w' ≤ 1048576) (h : inRng f e w S n i = true) : inRng f e w' S n i = true := by
  unfold inRng at h ⊢
  simp only [Bool.and_eq_true, decide_eq_true_eq] at h ⊢
  rw [w64 (min f e - w) (by omega) (by omega), w64 (max f e + w) (by omega) (by omega)] at h
  rw [w64 (min f e - w') (by omega) (by omega), w64 (max f e + w') (by omega) (by omega)]
  have t1 := Int.tdiv_le_tdiv (c := S) (by omega) (show min f e - w' ≤ min f e - w by omega)
  have t2 := Int.tdiv_le_tdiv (c := S) (by omega) (show max f e + w ≤ max f e + w' by omega)
  have b : ∀ x : Int, -100000000 ≤ x ∧ x ≤ 100000000 → -100000000 ≤ x.tdiv S ∧ x.tdiv S ≤ 100000000 := fun x hx => by
    have h1 := Int.tdiv_le_tdiv (c := S) (by omega) hx.1
    have h2 := Int.tdiv_le_tdiv (c := S) (by omega) hx.2
    have k1 : (-100000000 : Int).tdiv S = -((100000000 : Int).tdiv S) := by rw [Int.neg_tdiv]
    have k2 : (100000000 : Int).tdiv S ≤ 100000000 := by rw [Int.tdiv_eq_ediv_of_nonneg (by omega)]; exact Int.ediv_le_self S (by omega)
    omega
  have b1 := b (min f e - w) (by omega)
  have b2 := b (min f e - w') (by omega)
  have b3 := b (max f e + w) (by omega)
  have b4 := b (max f e + w') (by omega)
  rw [w64 _ (by omega) (by omega), w64 ((max f e + w).tdiv S + 1) (by omega) (by omega)] at h
  rw [w64 _ (by omega) (by omega), w64 ((max f e + w').tdiv S + 1) (by omega) (by omega)]
  omega

/-- a leg of spots that are small covers a cell: its corners are near -/
theorem cov_leg {a b : Int × Int} {W H S w cx cy : Int} (hg : Sea4 W H S w) (hp : Pair a b) (ha : SmallP a) (hb : SmallP b) :
    covL W H S w (legW a b) cx cy = true ↔ (inRng a.1 b.1 w S W cx = true ∧ inRng a.2 b.2 w S H cy = true) ∧
      (nearLeg (legW a b) (cx * S, cy * S) w = true ∧ nearLeg (legW a b) (cx * S + (S - 1), cy * S) w = true ∧ nearLeg (legW a b) (cx * S, cy * S + (S - 1)) w = true ∧ nearLeg (legW a b) (cx * S + (S - 1), cy * S + (S - 1)) w = true) := by
  have he := leg_end hp.ia hp.ib hp.far
  obtain ⟨-, hs⟩ := legW_eq ha.1 ha.2 hb.1 hb.2
  unfold covL
  rw [show (legW a b).fx = a.1 from rfl, show (legW a b).fy = a.2 from rfl, he.1, he.2, Bool.and_eq_true, Bool.and_eq_true]
  refine and_congr_right fun ⟨r1, r2⟩ => ?_
  obtain ⟨k1, c10, c11⟩ := corner hg.S hg.W (rng_in hg.W r1)
  obtain ⟨k2, c20, c21⟩ := corner hg.S hg.H (rng_in hg.H r2)
  have hS := hg.S
  unfold covA
  rw [c10, c11, c20, c21, nearW_eq hs (by dsimp only; omega) (by dsimp only; omega) hg.w, nearW_eq hs (by dsimp only; omega) (by dsimp only; omega) hg.w, nearW_eq hs (by dsimp only; omega) (by dsimp only; omega) hg.w, nearW_eq hs (by dsimp only; omega) (by dsimp only; omega) hg.w]
  simp only [Bool.and_eq_true, and_assoc]

theorem cov_near {a b : Int × Int} {W H S w cx cy px py : Int} (hg : Sea4 W H S w) (hp : Pair a b) (hc : covL W H S w (legW a b) cx cy = true) (hx : 0 ≤ px ∧ px < S) (hy : 0 ≤ py ∧ py < S) :
    nearW (legW a b) (cx * S + px, cy * S + py) w = true ∧ (0 ≤ cx ∧ cx < W) ∧ 0 ≤ cy ∧ cy < H := by
  rcases pair_or hp with ⟨ha, hb⟩ | h
  · obtain ⟨-, hs⟩ := legW_eq ha.1 ha.2 hb.1 hb.2
    obtain ⟨⟨r1, r2⟩, n1, n2, n3, n4⟩ := (cov_leg hg hp ha hb).1 hc
    have q1 := rng_in hg.W r1
    have q2 := rng_in hg.H r2
    obtain ⟨k1, -, -⟩ := corner hg.S hg.W q1
    obtain ⟨k2, -, -⟩ := corner hg.S hg.H q2
    refine ⟨?_, by omega, by omega⟩
    rw [nearW_eq hs (by dsimp only; omega) (by dsimp only; omega) hg.w]
    exact Rings.near_square (leg_way hs hp.far) hg.w.1 (by omega) (by omega) n1 n2 n3 n4
  · rw [cov_none hg.W hg.H hg.S hg.w hp.ia hp.ib hp.oa hp.ob hp.far h] at hc
    cases hc
theorem cov_wider {a b : Int × Int} {W H S w w' cx cy : Int} (hg : Sea4 W H S w) (hp : Pair a b) (hw : w ≤ w') (hw' : w' ≤ 1048576) (hc : covL W H S w (legW a b) cx cy = true) : covL W H S w' (legW a b) cx cy = true := by
  rcases pair_or hp with ⟨ha, hb⟩ | h
  · obtain ⟨-, hs⟩ := legW_eq ha.1 ha.2 hb.1 hb.2
    obtain ⟨⟨r1, r2⟩, n1, n2, n3, n4⟩ := (cov_leg hg hp ha hb).1 hc
    have hwy := leg_way hs hp.far
    have h0 := hg.w.1
    exact (cov_leg ⟨hg.W, hg.H, hg.S, by omega, hw'⟩ hp ha hb).2 ⟨⟨rng_wider hg.S ha.1 hb.1 h0 hw hw' r1, rng_wider hg.S ha.2 hb.2 h0 hw hw' r2⟩,
      Rings.near_wider hwy h0 hw n1, Rings.near_wider hwy h0 hw n2, Rings.near_wider hwy h0 hw n3, Rings.near_wider hwy h0 hw n4⟩
  · rw [cov_none hg.W hg.H hg.S hg.w hp.ia hp.ib hp.oa hp.ob hp.far h] at hc
    cases hc
theorem szW_neg {n : Int} (hn : i64 n) : szW (wrap64 (-n)) = szW n ∧ (wrap64 (-n) = 0 ↔ n = 0) := by
  by_cases e : n = -9223372036854775808
  · subst e
    have k : wrap64 (- -9223372036854775808) = -9223372036854775808 := by decide +kernel
    rw [k]
    exact ⟨rfl, Iff.rfl⟩
  · have hn' := hn
    unfold i64 at hn'
    have k : wrap64 (-n) = -n := w64 _ (by omega) (by omega)
    have h1 := szW_or hn
    have h2 := szW_or (n := -n) (by unfold i64; omega)
    rw [k]
    refine ⟨by omega, by omega⟩
theorem pair_back {a b : Int × Int} (h : Pair a b) : Pair b a := by
  refine ⟨h.ib, h.ia, h.ob, h.oa, ?_⟩
  have hf := h.far
  obtain ⟨⟨a1, a2⟩, a3, a4⟩ := h.ia
  obtain ⟨⟨b1, b2⟩, b3, b4⟩ := h.ib
  unfold legW at hf ⊢
  dsimp only at *
  obtain ⟨u, hu⟩ : ∃ u, wrap64 (b.1 - a.1) = u := ⟨_, rfl⟩
  obtain ⟨v, hv⟩ : ∃ v, wrap64 (b.2 - a.2) = v := ⟨_, rfl⟩
  have iu := wrap_i64 (b.1 - a.1)
  have iv := wrap_i64 (b.2 - a.2)
  rw [hu] at iu
  rw [hv] at iv
  have eu : wrap64 (a.1 - b.1) = wrap64 (-u) := by rw [← hu]; unfold wrap64; omega
  have ev : wrap64 (a.2 - b.2) = wrap64 (-v) := by rw [← hv]; unfold wrap64; omega
  have k1 := szW_neg iu
  have k2 := szW_neg iv
  rw [eu, ev, k1.1, k2.1]
  rw [hu, hv] at hf
  simp only [ne_eq, k1.2, k2.2] at *
  exact hf
theorem rng_back {f e w S n i : Int} : inRng e f w S n i = inRng f e w S n i := by
  unfold inRng
  rw [Int.min_comm e f, Int.max_comm e f]
theorem cov_back1 {a b : Int × Int} {W H S w cx cy : Int} (hg : Sea4 W H S w) (hp : Pair a b) (hc : covL W H S w (legW a b) cx cy = true) : covL W H S w (legW b a) cx cy = true := by
  rcases pair_or hp with ⟨ha, hb⟩ | h
  · obtain ⟨e1, hs⟩ := legW_eq ha.1 ha.2 hb.1 hb.2
    obtain ⟨e2, hs2⟩ := legW_eq hb.1 hb.2 ha.1 ha.2
    obtain ⟨⟨r1, r2⟩, n1, n2, n3, n4⟩ := (cov_leg hg hp ha hb).1 hc
    have hwy := leg_way hs hp.far
    have hbk : legW b a = Rings.back (legW a b) := by
      rw [e1, e2]
      exact legOf_back (by rw [← e1]; exact hp.far)
    refine (cov_leg hg (pair_back hp) hb ha).2 ⟨⟨by rw [rng_back]; exact r1, by rw [rng_back]; exact r2⟩, ?_⟩
    rw [hbk]
    exact ⟨Rings.near_back hwy n1, Rings.near_back hwy n2, Rings.near_back hwy n3, Rings.near_back hwy n4⟩
  · rw [cov_none hg.W hg.H hg.S hg.w hp.ia hp.ib hp.oa hp.ob hp.far h] at hc
    cases hc
theorem cov_back {a b : Int × Int} {W H S w cx cy : Int} (hg : Sea4 W H S w) (hp : Pair a b) : covL W H S w (legW b a) cx cy = covL W H S w (legW a b) cx cy := by
  rw [Bool.eq_iff_iff]
  exact ⟨cov_back1 hg (pair_back hp), cov_back1 hg hp⟩
end Go.Proofs.YtnbdnnbeiohmgaaDoor
