/- The plain law of TracksRings: what the walks of Square, Sector, CheckTrack and Near come to answers as the statement says. No program is in sight. -/
import Derived.Test.YtnbdnnbeiohmgaaDoorTkSector
import Derived.Test.YtnbdnnbeiohmgaaDoorTkNearAll
namespace Go.Proofs.YtnbdnnbeiohmgaaDoor
open Go.RowKit
open Go.Proofs.Rings (Leg sg ab legOf nearLeg nearL posSq stepSq rings)

theorem w64 (n : Int) (h1 : -9223372036854775808 ≤ n) (h2 : n ≤ 9223372036854775807) : wrap64 n = n := by unfold wrap64; omega
theorem okC_in {n : Int} (h : okC n = true) (h1 : -9223372036854775808 < n) (h2 : n ≤ 9223372036854775807) : -16777216 ≤ n ∧ n ≤ 16777216 := by
  unfold okC szW at h
  rw [w64 (-n) (by omega) (by omega)] at h
  split at h <;> simp at h <;> omega
theorem okC_of {n : Int} (h : -16777216 ≤ n ∧ n ≤ 16777216) : okC n = true := by
  unfold okC szW
  rw [w64 (-n) (by omega) (by omega)]
  split <;> simp <;> omega
theorem mul_in {a b A B : Int} (ha : -A ≤ a ∧ a ≤ A) (hb : -B ≤ b ∧ b ≤ B) : -(A * B) ≤ a * b ∧ a * b ≤ A * B := by
  have hA : 0 ≤ A := by omega
  have hB : 0 ≤ B := by omega
  have h1 : (a.natAbs * b.natAbs : Nat) ≤ A.natAbs * B.natAbs := Nat.mul_le_mul (by omega) (by omega)
  have h2 : ((a * b).natAbs : Int) ≤ A * B := by
    rw [Int.natAbs_mul]
    have h3 : ((A.natAbs * B.natAbs : Nat) : Int) = A * B := by rw [Int.natCast_mul, Int.natAbs_of_nonneg hA, Int.natAbs_of_nonneg hB]
    omega
  omega
theorem sq_in {a A : Int} (ha : -A ≤ a ∧ a ≤ A) : 0 ≤ a * a ∧ a * a ≤ A * A := ⟨by rw [← Int.natAbs_mul_self]; exact Int.natCast_nonneg _, (mul_in ha ha).2⟩

/-- a leg whose numbers are small -/
structure Small (l : Leg) : Prop where
  fx : -16777216 ≤ l.fx ∧ l.fx ≤ 16777216
  fy : -16777216 ≤ l.fy ∧ l.fy ≤ 16777216
  wx : l.wx = -1 ∨ l.wx = 0 ∨ l.wx = 1
  wy : l.wy = -1 ∨ l.wy = 0 ∨ l.wy = 1
  far : 0 ≤ l.far ∧ l.far ≤ 33554432

theorem distW_eq {u v w : Int} (hu : -134217728 ≤ u ∧ u ≤ 134217728) (hv : -134217728 ≤ v ∧ v ≤ 134217728) (hw : 0 ≤ w ∧ w ≤ 1048576) : distW u v w = decide (u * u + v * v ≤ w * w) := by
  have h1 := sq_in hu
  have h2 := sq_in hv
  have h3 := sq_in (a := w) (A := 1048576) (by omega)
  unfold distW
  rw [w64 (u * u) (by omega) (by omega), w64 (v * v) (by omega) (by omega), w64 (w * w) (by omega) (by omega), w64 (u * u + v * v) (by omega) (by omega)]

theorem nearW_eq {l : Leg} (h : Small l) {s : Int × Int} {w : Int} (hs1 : -16777216 ≤ s.1 ∧ s.1 ≤ 16777216) (hs2 : -16777216 ≤ s.2 ∧ s.2 ≤ 16777216) (hw : 0 ≤ w ∧ w ≤ 1048576) : nearW l s w = nearLeg l s w := by
  obtain ⟨fx, fy, wx, wy, far⟩ := l
  obtain ⟨hfx, hfy, hwx, hwy, hfar⟩ := h
  obtain ⟨sx, sy⟩ := s
  dsimp only at *
  have eu : wrap64 (sx - fx) = sx - fx := w64 _ (by omega) (by omega)
  have ev : wrap64 (sy - fy) = sy - fy := w64 _ (by omega) (by omega)
  have e1 : aheadW ⟨fx, fy, wx, wy, far⟩ (sx, sy) = (sx - fx) * wx + (sy - fy) * wy := by
    unfold aheadW
    dsimp only
    rw [eu, ev]
    rcases hwx with rfl | rfl | rfl <;> rcases hwy with rfl | rfl | rfl <;> (unfold wrap64; omega)
  have e2 : asideW ⟨fx, fy, wx, wy, far⟩ (sx, sy) = (sy - fy) * wx - (sx - fx) * wy := by
    unfold asideW
    dsimp only
    rw [eu, ev]
    rcases hwx with rfl | rfl | rfl <;> rcases hwy with rfl | rfl | rfl <;> (unfold wrap64; omega)
  have e3 : unitW ⟨fx, fy, wx, wy, far⟩ = wx * wx + wy * wy := by
    rcases hwx with rfl | rfl | rfl <;> rcases hwy with rfl | rfl | rfl <;> (unfold unitW; dsimp only; decide +kernel)
  have e4 : shW fx wx far = fx + wx * far := by
    unfold shW
    rcases hwx with rfl | rfl | rfl <;> (unfold wrap64; omega)
  have e5 : shW fy wy far = fy + wy * far := by
    unfold shW
    rcases hwy with rfl | rfl | rfl <;> (unfold wrap64; omega)
  have b1 : -67108864 ≤ (sy - fy) * wx - (sx - fx) * wy ∧ (sy - fy) * wx - (sx - fx) * wy ≤ 67108864 := by
    rcases hwx with rfl | rfl | rfl <;> rcases hwy with rfl | rfl | rfl <;> omega
  have b2 : 0 ≤ wx * wx + wy * wy ∧ wx * wx + wy * wy ≤ 2 := by
    rcases hwx with rfl | rfl | rfl <;> rcases hwy with rfl | rfl | rfl <;> decide
  have b3 : -50331648 ≤ fx + wx * far ∧ fx + wx * far ≤ 50331648 := by
    rcases hwx with rfl | rfl | rfl <;> omega
  have b4 : -50331648 ≤ fy + wy * far ∧ fy + wy * far ≤ 50331648 := by
    rcases hwy with rfl | rfl | rfl <;> omega
  unfold nearW nearLeg nearL
  rw [e1, e2, e3]
  dsimp only
  rw [e4, e5, eu, ev]
  generalize (sx - fx) * wx + (sy - fy) * wy = ah
  generalize (sy - fy) * wx - (sx - fx) * wy = sd at *
  generalize wx * wx + wy * wy = un at *
  generalize fx + wx * far = ex at *
  generalize fy + wy * far = ey at *
  have c1 := mul_in (a := far) (b := un) (A := 33554432) (B := 2) (by omega) (by omega)
  have c2 := sq_in b1
  have c3 := mul_in (a := un) (b := w) (A := 2) (B := 1048576) (by omega) (by omega)
  have c4 := mul_in (a := un * w) (b := w) (A := 2 * 1048576) (B := 1048576) (by omega) (by omega)
  rw [distW_eq (by omega) (by omega) hw, w64 (far * un) (by omega) (by omega), w64 (sd * sd) (by omega) (by omega), w64 (un * w) (by omega) (by omega), w64 (un * w * w) (by omega) (by omega),
    w64 (sx - ex) (by omega) (by omega), w64 (sy - ey) (by omega) (by omega), distW_eq (by omega) (by omega) hw]

/-- a leg between two valid spots -/
theorem legW_eq {a b : Int × Int} (ha1 : -16777216 ≤ a.1 ∧ a.1 ≤ 16777216) (ha2 : -16777216 ≤ a.2 ∧ a.2 ≤ 16777216) (hb1 : -16777216 ≤ b.1 ∧ b.1 ≤ 16777216) (hb2 : -16777216 ≤ b.2 ∧ b.2 ≤ 16777216) :
    legW a b = legOf a b ∧ Small (legW a b) := by
  have s1 : ∀ n, -33554432 ≤ n ∧ n ≤ 33554432 → szW n = ab n := by
    intro n hn
    unfold szW ab
    rw [w64 (-n) (by omega) (by omega)]
    split <;> split <;> omega
  have s2 : ∀ n, -33554432 ≤ n ∧ n ≤ 33554432 → 0 ≤ ab n ∧ ab n ≤ 33554432 := by intro n hn; unfold ab; split <;> omega
  have s3 : ∀ n, sg n = -1 ∨ sg n = 0 ∨ sg n = 1 := by
    intro n
    unfold sg
    split
    · simp
    · split <;> simp
  have e1 : wrap64 (b.1 - a.1) = b.1 - a.1 := w64 _ (by omega) (by omega)
  have e2 : wrap64 (b.2 - a.2) = b.2 - a.2 := w64 _ (by omega) (by omega)
  have e : legW a b = legOf a b := by
    unfold legW legOf
    rw [e1, e2, s1 _ (by omega), s1 _ (by omega)]
  refine ⟨e, ?_⟩
  rw [e]
  have t1 := s2 (b.1 - a.1) (by omega)
  have t2 := s2 (b.2 - a.2) (by omega)
  refine ⟨ha1, ha2, s3 _, s3 _, ?_⟩
  unfold legOf
  dsimp only
  split <;> omega

theorem shW_eq {x u n : Int} (hu : u = -1 ∨ u = 0 ∨ u = 1) (hx : -1099511627776 ≤ x ∧ x ≤ 1099511627776) (hn : -1099511627776 ≤ n ∧ n ≤ 1099511627776) : shW x u n = x + u * n := by
  unfold shW
  rcases hu with rfl | rfl | rfl <;> (unfold wrap64; omega)

/-- how far each leg of the square track goes -/
theorem side_len {d : Int} (hd : 1 ≤ d ∧ d ≤ 1048576) (i : Nat) (hi : i ≤ 121) : 1 ≤ (((i / 2 : Nat) : Int) + 1) * d ∧ (((i / 2 : Nat) : Int) + 1) * d ≤ 67108864 := by
  have h1 := mul_in (a := ((i / 2 : Nat) : Int) + 1) (b := d) (A := 61) (B := 1048576) (by omega) (by omega)
  have h2 : 0 ≤ ((i / 2 : Nat) : Int) * d := Int.mul_nonneg (by omega) (by omega)
  have h3 : (((i / 2 : Nat) : Int) + 1) * d = ((i / 2 : Nat) : Int) * d + d := by rw [Int.add_mul, Int.one_mul]
  omega

theorem posW_eq {s : Int × Int} {d : Int} (h1 : -16777216 ≤ s.1 ∧ s.1 ≤ 16777216) (h2 : -16777216 ≤ s.2 ∧ s.2 ≤ 16777216) (hd : 1 ≤ d ∧ d ≤ 1048576) : ∀ i : Nat, i ≤ 122 →
    posW s d i = posSq s d i ∧ (-16777216 - (i : Int) * 67108864 ≤ (posSq s d i).1 ∧ (posSq s d i).1 ≤ 16777216 + (i : Int) * 67108864) ∧ (-16777216 - (i : Int) * 67108864 ≤ (posSq s d i).2 ∧ (posSq s d i).2 ≤ 16777216 + (i : Int) * 67108864) := by
  intro i
  induction i with
  | zero => intro _; exact ⟨rfl, by simpa [posSq] using h1, by simpa [posSq] using h2⟩
  | succ i ih =>
    intro hi
    obtain ⟨e, b1, b2⟩ := ih (by omega)
    have hl := side_len hd i (by omega)
    have ec : ((i / 2 + 1 : Nat) : Int) = ((i / 2 : Nat) : Int) + 1 := by omega
    simp only [posW, posSq, stepSq, e, ec]
    generalize posSq s d i = p at *
    obtain ⟨px, py⟩ := p
    rw [w64 _ (by omega) (by omega)]
    generalize (((i / 2 : Nat) : Int) + 1) * d = n at *
    have h4 : i % 4 = 0 ∨ i % 4 = 1 ∨ i % 4 = 2 ∨ i % 4 = 3 := by omega
    rcases h4 with h4 | h4 | h4 | h4 <;> simp only [h4, sideXY] <;> dsimp only at * <;>
      rw [shW_eq (by simp) (by omega) (by omega), shW_eq (by simp) (by omega) (by omega)] <;>
      refine ⟨Prod.ext ?_ ?_, ⟨?_, ?_⟩, ?_, ?_⟩ <;> (try dsimp only) <;> omega

/-- what a valid square track of five legs or more says of its numbers -/
theorem sq_small {x y d : Int} {n : Nat} (hx : -9223372036854775808 ≤ x ∧ x ≤ 9223372036854775807) (hy : -9223372036854775808 ≤ y ∧ y ≤ 9223372036854775807) (hn : 2 ≤ n) (h : sqG (x, y) d n = true) :
    (-16777216 ≤ x ∧ x ≤ 16777216) ∧ (-16777216 ≤ y ∧ y ≤ 16777216) ∧ (1 ≤ d ∧ d ≤ 1048576) ∧ (∀ i, i ≤ n → okS (posW (x, y) d i) = true) := by
  simp only [sqG, sqOK, Bool.and_eq_true, Int.toNat_natCast] at h
  obtain ⟨⟨⟨h1, h2⟩, h3⟩, h4⟩ := h
  have hd : 1 ≤ d ∧ d ≤ 1048576 := by simpa [withinB] using h2
  have hall : ∀ i, i ≤ n → okS (posW (x, y) d i) = true := by
    intro i hi
    refine List.all_eq_true.1 h4 _ ?_
    exact List.mem_map.2 ⟨i, List.mem_range.2 (by omega), rfl⟩
  have a0 : okC x = true ∧ okC y = true := by simpa [okS] using h1
  have e1 : posW (x, y) d 1 = (shW x 1 (wrap64 d), shW y 0 (wrap64 d)) := by simp [posW, sideXY]
  have e2 : posW (x, y) d 2 = (shW (shW x 1 (wrap64 d)) 0 (wrap64 d), shW (shW y 0 (wrap64 d)) 1 (wrap64 d)) := by
    rw [show (2 : Nat) = 1 + 1 from rfl, posW, e1]; simp [sideXY]
  have a1 := hall 1 (by omega)
  have a2 := hall 2 (by omega)
  rw [e1] at a1
  rw [e2] at a2
  simp only [okS, Bool.and_eq_true] at a1 a2
  have hx' : x ≠ -9223372036854775808 := by
    intro hc
    have := okC_in a1.1 (by unfold shW wrap64; omega) (by unfold shW wrap64; omega)
    unfold shW wrap64 at this
    omega
  have hy' : y ≠ -9223372036854775808 := by
    intro hc
    have := okC_in a2.2 (by unfold shW wrap64; omega) (by unfold shW wrap64; omega)
    unfold shW wrap64 at this
    omega
  exact ⟨okC_in a0.1 (by omega) hx.2, okC_in a0.2 (by omega) hy.2, hd, hall⟩

theorem sqW_get (s : Int × Int) (d : Int) (n i : Nat) (hi : i ≤ n) : (sqW s d n)[i]? = some (posW s d i) := by
  simp [sqW, List.getElem?_range (show i < n + 1 by omega)]
theorem legsW_all {l : List (Int × Int)} {q : Leg → Bool} (h : ∀ i a b, l[i]? = some a → l[i + 1]? = some b → q (legW a b) = true) : (legsW l).all q = true := by
  induction l with
  | nil => rfl
  | cons a l ih =>
    cases l with
    | nil => rfl
    | cons b l =>
      simp only [legsW, List.all_cons, Bool.and_eq_true]
      exact ⟨h 0 a b rfl rfl, ih fun i x y h1 h2 => h (i + 1) x y (by simpa using h1) (by simpa using h2)⟩

theorem stepSq_far {p : Int × Int} {d : Int} (hd : 1 ≤ d ∧ d ≤ 1048576) (i : Nat) (hi : i ≤ 121) : (legOf p (stepSq p d i)).far ≠ 0 := by
  have hl := side_len hd i hi
  have ec : ((i / 2 + 1 : Nat) : Int) = ((i / 2 : Nat) : Int) + 1 := by omega
  simp only [stepSq, ec]
  generalize (((i / 2 : Nat) : Int) + 1) * d = n at *
  have h4 : i % 4 = 0 ∨ i % 4 = 1 ∨ i % 4 = 2 ∨ i % 4 = 3 := by omega
  obtain ⟨px, py⟩ := p
  rcases h4 with h4 | h4 | h4 | h4 <;> simp only [h4] <;> unfold legOf ab <;> dsimp only
  · have t1 : px + n - px = n := by omega
    have t2 : py - py = 0 := by omega
    rw [t1, t2, if_neg (by simp)]
    split <;> split <;> omega
  · have t1 : py + n - py = n := by omega
    have t2 : px - px = 0 := by omega
    rw [t1, t2, if_neg (by simp)]
    split <;> split <;> omega
  · have t1 : px - n - px = -n := by omega
    have t2 : py - py = 0 := by omega
    rw [t1, t2, if_neg (by simp)]
    split <;> split <;> omega
  · have t1 : py - n - py = -n := by omega
    have t2 : px - px = 0 := by omega
    rw [t1, t2, if_neg (by simp)]
    split <;> split <;> omega

/-- THE PLAIN LAW OF THE SQUARE TRACK -/
theorem rings_plain {x y d : Int} {m : Nat} (hx : -9223372036854775808 ≤ x ∧ x ≤ 9223372036854775807) (hy : -9223372036854775808 ≤ y ∧ y ≤ 9223372036854775807) (hm : 1 ≤ m ∧ m ≤ 30) (h : sqG (x, y) d ((4 * m + 1 : Nat) : Int) = true) :
    (-16777216 ≤ x ∧ x ≤ 16777216) ∧ (-16777216 ≤ y ∧ y ≤ 16777216) ∧ (1 ≤ d ∧ d ≤ 1048576) ∧ checkB (sqW (x, y) d (4 * m + 1)) = true ∧
    ∀ px py : Int, (-((m : Int) * d) ≤ px - x ∧ px - x ≤ m * d) → (-((m : Int) * d) ≤ py - y ∧ py - y ≤ m * d) →
      nearE (sqW (x, y) d (4 * m + 1)) (px, py) d = 2 ∨ nearB (sqW (x, y) d (4 * m + 1)) (px, py) d = true := by
  obtain ⟨h1, h2, hd, hall⟩ := sq_small hx hy (by omega) h
  have hpos : ∀ i, i ≤ 4 * m + 1 → posW (x, y) d i = posSq (x, y) d i ∧ (-16777216 ≤ (posSq (x, y) d i).1 ∧ (posSq (x, y) d i).1 ≤ 16777216) ∧ (-16777216 ≤ (posSq (x, y) d i).2 ∧ (posSq (x, y) d i).2 ≤ 16777216) := by
    intro i hi
    obtain ⟨e, b1, b2⟩ := posW_eq (s := (x, y)) h1 h2 hd i (by omega)
    have hk := hall i hi
    rw [e] at hk
    simp only [okS, Bool.and_eq_true] at hk
    exact ⟨e, okC_in hk.1 (by omega) (by omega), okC_in hk.2 (by omega) (by omega)⟩
  have hleg : ∀ i, i < 4 * m + 1 → legW (posW (x, y) d i) (posW (x, y) d (i + 1)) = legOf (posSq (x, y) d i) (posSq (x, y) d (i + 1)) ∧ Small (legW (posW (x, y) d i) (posW (x, y) d (i + 1))) := by
    intro i hi
    obtain ⟨e, b1, b2⟩ := hpos i (by omega)
    obtain ⟨e', b1', b2'⟩ := hpos (i + 1) (by omega)
    rw [e, e']
    exact legW_eq b1 b2 b1' b2'
  have hck : checkB (sqW (x, y) d (4 * m + 1)) = true := by
    simp only [checkB, Bool.and_eq_true]
    refine ⟨⟨?_, ?_⟩, legsW_all ?_⟩
    · simp only [withinB, sqW_length, Bool.and_eq_true, decide_eq_true_eq]; omega
    · simp only [sqG, Bool.and_eq_true] at h
      exact h.2
    · intro i a b ha hb
      have hi : i < 4 * m + 1 := by
        have := (List.getElem?_eq_some_iff.1 hb).1
        rw [sqW_length] at this
        omega
      rw [sqW_get _ _ _ _ (by omega)] at ha hb
      obtain rfl := Option.some.inj ha
      obtain rfl := Option.some.inj hb
      rw [(hleg i hi).1]
      have := stepSq_far (p := posSq (x, y) d i) hd i (by omega)
      simpa [posSq] using this
  refine ⟨h1, h2, hd, hck, fun px py hpx hpy => ?_⟩
  have hmd := mul_in (a := (m : Int)) (b := d) (A := 30) (B := 1048576) (by omega) (by omega)
  by_cases hp : okS (px, py) = true
  · right
    simp only [okS, Bool.and_eq_true] at hp
    have p1 := okC_in hp.1 (by omega) (by omega)
    have p2 := okC_in hp.2 (by omega) (by omega)
    obtain ⟨i, hi, hn⟩ := rings (x, y) d m px py hd.1 hm.1 hpx.1 hpx.2 hpy.1 hpy.2
    simp only [nearB, nearOK, hck, Bool.true_and, Bool.and_eq_true, okS, hp.1, hp.2]
    refine ⟨?_, List.any_eq_true.2 ⟨_, List.mem_of_getElem? (legsW_get _ i _ _ (sqW_get _ _ _ _ (by omega)) (sqW_get _ _ _ _ (by omega))), ?_⟩⟩
    · simp [withinB]; omega
    · rw [nearW_eq (hleg i hi).2 p1 p2 (by omega), (hleg i hi).1]
      exact hn
  · left
    have hp' : okS (px, py) = false := by simpa using hp
    simp [nearE, nearOK, hp']

theorem diff_w {x u u' d : Int} (hu : u = -1 ∨ u = 0 ∨ u = 1) (hu' : u' = -1 ∨ u' = 0 ∨ u' = 1) (hd : 1 ≤ d ∧ d ≤ 1048576) : wrap64 (shW x u' d - shW x u d) = (u' - u) * d := by
  unfold shW
  rcases hu with rfl | rfl | rfl <;> rcases hu' with rfl | rfl | rfl <;> (unfold wrap64; omega)
theorem far_w {p q d : Int} (hp : p = -1 ∨ p = 0 ∨ p = 1) (hq : q = -1 ∨ q = 0 ∨ q = 1) (h : ¬ (p = 0 ∧ q = 0)) (hd : 1 ≤ d ∧ d ≤ 1048576) :
    (if p * d ≠ 0 ∧ q * d ≠ 0 ∧ szW (p * d) ≠ szW (q * d) then 0 else max (szW (p * d)) (szW (q * d))) ≠ 0 := by
  have s1 : szW d = d := by unfold szW; rw [w64 (-d) (by omega) (by omega), if_neg (by omega)]
  have s2 : szW (-1 * d) = d := by unfold szW; rw [w64 (-(-1 * d)) (by omega) (by omega), if_pos (by omega)]; omega
  have s3 : szW (0 * d) = 0 := by rw [Int.zero_mul]; decide +kernel
  have s4 : szW (1 * d) = d := by rw [Int.one_mul, s1]
  rcases hp with rfl | rfl | rfl <;> rcases hq with rfl | rfl | rfl <;> simp only [s2, s3, s4] <;> first | exact absurd ⟨rfl, rfl⟩ h | (split <;> omega)

/-- THE PLAIN LAW OF THE SECTOR TRACK -/
theorem sector_plain {x y d : Int} {n : Nat} (hn : 1 ≤ n ∧ n ≤ 12) (h : secG (x, y) d n = true) : checkB (secW (x, y) d (n + 1)) = true := by
  simp only [secG, secOK, Bool.and_eq_true, Int.toNat_natCast] at h
  obtain ⟨⟨⟨h1, h2⟩, h3⟩, h4⟩ := h
  have hd : 1 ≤ d ∧ d ≤ 1048576 := by simpa [withinB] using h2
  simp only [checkB, Bool.and_eq_true]
  refine ⟨⟨?_, h4⟩, legsW_all ?_⟩
  · simp only [withinB, secW_length, Bool.and_eq_true, decide_eq_true_eq]; omega
  · intro i a b ha hb
    have hi : i < n := by
      have := (List.getElem?_eq_some_iff.1 hb).1
      rw [secW_length] at this
      omega
    have ea : a = secP (x, y) d i := by
      simp only [secW, List.getElem?_map, List.getElem?_range (show i < n + 1 by omega), Option.map_some] at ha
      exact (Option.some.inj ha).symm
    have eb : b = secP (x, y) d (i + 1) := by
      simp only [secW, List.getElem?_map, List.getElem?_range (show i + 1 < n + 1 by omega), Option.map_some] at hb
      exact (Option.some.inj hb).symm
    subst ea eb
    have hst : ∀ j, j < 12 → ((starXY.getD j (0, 0)).1 = -1 ∨ (starXY.getD j (0, 0)).1 = 0 ∨ (starXY.getD j (0, 0)).1 = 1) ∧ ((starXY.getD j (0, 0)).2 = -1 ∨ (starXY.getD j (0, 0)).2 = 0 ∨ (starXY.getD j (0, 0)).2 = 1) ∧
        ((starXY.getD (j + 1) (0, 0)).1 = -1 ∨ (starXY.getD (j + 1) (0, 0)).1 = 0 ∨ (starXY.getD (j + 1) (0, 0)).1 = 1) ∧ ((starXY.getD (j + 1) (0, 0)).2 = -1 ∨ (starXY.getD (j + 1) (0, 0)).2 = 0 ∨ (starXY.getD (j + 1) (0, 0)).2 = 1) ∧
        ((starXY.getD (j + 1) (0, 0)).1 - (starXY.getD j (0, 0)).1 = -1 ∨ (starXY.getD (j + 1) (0, 0)).1 - (starXY.getD j (0, 0)).1 = 0 ∨ (starXY.getD (j + 1) (0, 0)).1 - (starXY.getD j (0, 0)).1 = 1) ∧
        ((starXY.getD (j + 1) (0, 0)).2 - (starXY.getD j (0, 0)).2 = -1 ∨ (starXY.getD (j + 1) (0, 0)).2 - (starXY.getD j (0, 0)).2 = 0 ∨ (starXY.getD (j + 1) (0, 0)).2 - (starXY.getD j (0, 0)).2 = 1) ∧
        ¬ ((starXY.getD (j + 1) (0, 0)).1 - (starXY.getD j (0, 0)).1 = 0 ∧ (starXY.getD (j + 1) (0, 0)).2 - (starXY.getD j (0, 0)).2 = 0) := by decide +kernel
    obtain ⟨t1, t2, t3, t4, t5, t6, t7⟩ := hst i (by omega)
    have := far_w t5 t6 t7 hd
    simp only [bne_iff_ne]
    unfold legW secP
    dsimp only
    rw [diff_w t1 t3 hd, diff_w t2 t4 hd]
    exact this
end Go.Proofs.YtnbdnnbeiohmgaaDoor
