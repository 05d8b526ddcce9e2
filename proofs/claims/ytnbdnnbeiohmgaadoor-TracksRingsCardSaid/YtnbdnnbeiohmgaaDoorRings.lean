namespace Go.Proofs.Rings

/-- a spot -/
abbrev Sp := Int × Int

/-- is a spot not farther from a leg (from (fx, fy) in the direction (wx, wy), far steps) than a width? -/
def nearL (fx fy wx wy far sx sy width : Int) : Bool :=
  let u := sx - fx
  let v := sy - fy
  let ahead := u * wx + v * wy
  let aside := v * wx - u * wy
  let unit := wx * wx + wy * wy
  if ahead < 0 then decide (u * u + v * v ≤ width * width)
  else if far * unit < ahead then
    decide ((sx - (fx + wx * far)) * (sx - (fx + wx * far)) + (sy - (fy + wy * far)) * (sy - (fy + wy * far)) ≤ width * width)
  else decide (aside * aside ≤ unit * width * width)

def sg (n : Int) : Int := if n < 0 then -1 else if n = 0 then 0 else 1
def ab (n : Int) : Int := if n < 0 then -n else n

/-- the leg between two spots -/
structure Leg where
  fx : Int
  fy : Int
  wx : Int
  wy : Int
  far : Int
  deriving DecidableEq, Inhabited

def legOf (a b : Sp) : Leg :=
  let u := b.1 - a.1
  let v := b.2 - a.2
  { fx := a.1, fy := a.2, wx := sg u, wy := sg v, far := if u ≠ 0 ∧ v ≠ 0 ∧ ab u ≠ ab v then 0 else max (ab u) (ab v) }

def nearLeg (l : Leg) (s : Sp) (width : Int) : Bool := nearL l.fx l.fy l.wx l.wy l.far s.1 s.2 width

theorem sq_le {a b : Int} (h0 : 0 ≤ a) (h : a ≤ b) : a * a ≤ b * b := Int.mul_le_mul h h h0 (by omega)

theorem sq_abs_le {a b : Int} (h0 : -b ≤ a) (h : a ≤ b) : a * a ≤ b * b := by
  by_cases h1 : a < 0
  · have := sq_le (a := -a) (b := b) (by omega) (by omega)
    rwa [Int.neg_mul_neg] at this
  · exact sq_le (by omega) h

/-- near a leg in the direction of x -/
theorem near_right {ax ay far sx sy w : Int} (h0 : 0 < far) (ha : ax ≤ sx) (hb : sx ≤ ax + far) (h1 : -w ≤ sy - ay) (h2 : sy - ay ≤ w) :
    nearLeg (legOf (ax, ay) (ax + far, ay)) (sx, sy) w = true := by
  have e : legOf (ax, ay) (ax + far, ay) = { fx := ax, fy := ay, wx := 1, wy := 0, far := far } := by
    simp [legOf, sg, ab]; omega
  rw [e]
  have := sq_abs_le h1 h2
  simp only [nearLeg, nearL]
  rw [if_neg (by omega), if_neg (by omega)]
  simpa using this

theorem near_up {ax ay far sx sy w : Int} (h0 : 0 < far) (ha : ay ≤ sy) (hb : sy ≤ ay + far) (h1 : -w ≤ sx - ax) (h2 : sx - ax ≤ w) :
    nearLeg (legOf (ax, ay) (ax, ay + far)) (sx, sy) w = true := by
  have e : legOf (ax, ay) (ax, ay + far) = { fx := ax, fy := ay, wx := 0, wy := 1, far := far } := by
    simp [legOf, sg, ab]; omega
  rw [e]
  have := sq_abs_le h1 h2
  simp only [nearLeg, nearL]
  rw [if_neg (by omega), if_neg (by omega)]
  simpa [Int.neg_mul_neg] using this

theorem near_left {ax ay far sx sy w : Int} (h0 : 0 < far) (ha : sx ≤ ax) (hb : ax - far ≤ sx) (h1 : -w ≤ sy - ay) (h2 : sy - ay ≤ w) :
    nearLeg (legOf (ax, ay) (ax - far, ay)) (sx, sy) w = true := by
  have e : legOf (ax, ay) (ax - far, ay) = { fx := ax, fy := ay, wx := -1, wy := 0, far := far } := by
    have hz : ax - far - ax = -far := by omega
    have hn : -far < 0 := by omega
    simp [legOf, sg, ab, hz]; omega
  rw [e]
  have := sq_abs_le h1 h2
  simp only [nearLeg, nearL]
  rw [if_neg (by omega), if_neg (by omega)]
  simpa [Int.neg_mul_neg] using this

theorem near_down {ax ay far sx sy w : Int} (h0 : 0 < far) (ha : sy ≤ ay) (hb : ay - far ≤ sy) (h1 : -w ≤ sx - ax) (h2 : sx - ax ≤ w) :
    nearLeg (legOf (ax, ay) (ax, ay - far)) (sx, sy) w = true := by
  have e : legOf (ax, ay) (ax, ay - far) = { fx := ax, fy := ay, wx := 0, wy := -1, far := far } := by
    have hz : ay - far - ay = -far := by omega
    have hn : -far < 0 := by omega
    simp [legOf, sg, ab, hz]; omega
  rw [e]
  have := sq_abs_le h1 h2
  simp only [nearLeg, nearL]
  rw [if_neg (by omega), if_neg (by omega)]
  simpa using this

/-- the spots of an expanding square track -/
def stepSq (p : Sp) (S : Int) (i : Nat) : Sp :=
  let d := ((i / 2 + 1 : Nat) : Int) * S
  match i % 4 with
  | 0 => (p.1 + d, p.2)
  | 1 => (p.1, p.2 + d)
  | 2 => (p.1 - d, p.2)
  | _ => (p.1, p.2 - d)
def posSq (s : Sp) (S : Int) : Nat → Sp
  | 0 => s
  | i + 1 => stepSq (posSq s S i) S i

theorem cast_odd (k : Nat) (S : Int) : ((2 * k + 1 : Nat) : Int) * S = 2 * (k * S) + S := by
  rw [Int.natCast_add, Int.natCast_mul, Int.add_mul, Int.mul_assoc]; simp
theorem cast_even (k : Nat) (S : Int) : ((2 * k + 2 : Nat) : Int) * S = 2 * (k * S) + 2 * S := by
  rw [Int.natCast_add, Int.natCast_mul, Int.add_mul, Int.mul_assoc]; simp

theorem pos_next {s : Sp} {S : Int} {k : Nat} (h : posSq s S (4 * k) = (s.1 - k * S, s.2 - k * S)) :
    posSq s S (4 * k + 1) = (s.1 + k * S + S, s.2 - k * S) ∧ posSq s S (4 * k + 2) = (s.1 + k * S + S, s.2 + k * S + S) ∧
    posSq s S (4 * k + 3) = (s.1 - k * S - S, s.2 + k * S + S) ∧ posSq s S (4 * k + 4) = (s.1 - k * S - S, s.2 - k * S - S) := by
  have h1 : posSq s S (4 * k + 1) = (s.1 + k * S + S, s.2 - k * S) := by
    show stepSq (posSq s S (4 * k)) S (4 * k) = _
    have e1 : 4 * k % 4 = 0 := by omega
    have e2 : 4 * k / 2 + 1 = 2 * k + 1 := by omega
    simp only [h, stepSq, e1, e2, cast_odd]
    refine Prod.ext ?_ ?_ <;> simp only <;> omega
  have h2 : posSq s S (4 * k + 2) = (s.1 + k * S + S, s.2 + k * S + S) := by
    show stepSq (posSq s S (4 * k + 1)) S (4 * k + 1) = _
    have e1 : (4 * k + 1) % 4 = 1 := by omega
    have e2 : (4 * k + 1) / 2 + 1 = 2 * k + 1 := by omega
    simp only [h1, stepSq, e1, e2, cast_odd]
    refine Prod.ext ?_ ?_ <;> simp only <;> omega
  have h3 : posSq s S (4 * k + 3) = (s.1 - k * S - S, s.2 + k * S + S) := by
    show stepSq (posSq s S (4 * k + 2)) S (4 * k + 2) = _
    have e1 : (4 * k + 2) % 4 = 2 := by omega
    have e2 : (4 * k + 2) / 2 + 1 = 2 * k + 2 := by omega
    simp only [h2, stepSq, e1, e2, cast_even]
    refine Prod.ext ?_ ?_ <;> simp only <;> omega
  have h4 : posSq s S (4 * k + 4) = (s.1 - k * S - S, s.2 - k * S - S) := by
    show stepSq (posSq s S (4 * k + 3)) S (4 * k + 3) = _
    have e1 : (4 * k + 3) % 4 = 3 := by omega
    have e2 : (4 * k + 3) / 2 + 1 = 2 * k + 2 := by omega
    simp only [h3, stepSq, e1, e2, cast_even]
    refine Prod.ext ?_ ?_ <;> simp only <;> omega
  exact ⟨h1, h2, h3, h4⟩

theorem cast_succ_mul (k : Nat) (S : Int) : ((k + 1 : Nat) : Int) * S = k * S + S := by rw [Int.natCast_add, Int.add_mul]; simp

theorem pos_four (s : Sp) (S : Int) (k : Nat) : posSq s S (4 * k) = (s.1 - k * S, s.2 - k * S) := by
  induction k with
  | zero => simp [posSq]
  | succ k ih =>
    have e : 4 * (k + 1) = 4 * k + 4 := by omega
    rw [e, (pos_next ih).2.2.2, cast_succ_mul]
    refine Prod.ext ?_ ?_ <;> simp only <;> omega

/-- each place that differs from s by at most m S, in x and in y, is within S of one of the first 4 m + 1 legs -/
theorem rings (s : Sp) (S : Int) (m : Nat) (px py : Int) (hS : 1 ≤ S) (hm : 1 ≤ m)
    (h1 : -(m * S) ≤ px - s.1) (h2 : px - s.1 ≤ m * S) (h3 : -(m * S) ≤ py - s.2) (h4 : py - s.2 ≤ m * S) :
    ∃ i, i < 4 * m + 1 ∧ nearLeg (legOf (posSq s S i) (posSq s S (i + 1))) (px, py) S = true := by
  obtain ⟨r, hr1, hr2, hr3, hr4, hr5, hr6⟩ : ∃ r : Int, 0 ≤ r ∧ r ≤ m * S ∧ -r ≤ px - s.1 ∧ px - s.1 ≤ r ∧ (-r ≤ py - s.2 ∧ py - s.2 ≤ r) ∧
      (r = px - s.1 ∨ -r = px - s.1 ∨ r = py - s.2 ∨ -r = py - s.2) := by
    by_cases ha : ab (px - s.1) ≤ ab (py - s.2)
    · refine ⟨ab (py - s.2), ?_⟩; unfold ab at *; split at ha <;> split at ha <;> omega
    · refine ⟨ab (px - s.1), ?_⟩; unfold ab at *; split at ha <;> split at ha <;> omega
  -- the ring: k + 1
  obtain ⟨k, hk1, hk2, hk3⟩ : ∃ k : Nat, k + 1 ≤ m ∧ (k = 0 ∨ (k : Int) * S < r) ∧ r ≤ k * S + S := by
    by_cases h0 : r = 0
    · exact ⟨0, hm, .inl rfl, by simp; omega⟩
    · refine ⟨((r - 1) / S).toNat, ?_, ?_, ?_⟩
      · have hq0 : 0 ≤ (r - 1) / S := Int.ediv_nonneg (by omega) (by omega)
        have hq : (r - 1) / S < m := Int.ediv_lt_of_lt_mul (by omega) (by omega)
        omega
      · right
        have hq0 : 0 ≤ (r - 1) / S := Int.ediv_nonneg (by omega) (by omega)
        rw [Int.toNat_of_nonneg hq0]
        have := Int.ediv_mul_le (r - 1) (b := S) (by omega)
        omega
      · have hq0 : 0 ≤ (r - 1) / S := Int.ediv_nonneg (by omega) (by omega)
        rw [Int.toNat_of_nonneg hq0]
        have := Int.lt_ediv_add_one_mul_self (r - 1) (b := S) (by omega)
        rw [Int.add_mul] at this
        omega
  have p0 := pos_four s S k
  obtain ⟨p1, p2, p3, p4⟩ := pos_next p0
  have p4' : posSq s S (4 * (k + 1)) = (s.1 - ((k + 1 : Nat) : Int) * S, s.2 - ((k + 1 : Nat) : Int) * S) := pos_four s S (k + 1)
  have p5 := (pos_next p4').1
  have e4 : 4 * (k + 1) = 4 * k + 4 := by omega
  rw [e4] at p4' p5
  rw [cast_succ_mul] at p5
  have hK : (0 : Int) ≤ k * S := Int.mul_nonneg (by omega) (by omega)
  have hk2' : (k : Int) * S ≤ r := by
    rcases hk2 with rfl | h
    · simpa using hr1
    · omega
  generalize hKe : (k : Int) * S = K at *
  -- the right side, the top, the left side, the bottom
  have right : px - s.1 = r → -K ≤ py - s.2 → nearLeg (legOf (posSq s S (4 * k + 1)) (posSq s S (4 * k + 1 + 1))) (px, py) S = true := fun ha hb => by
    have e : s.2 + K + S = (s.2 - K) + (2 * K + S) := by omega
    rw [p1, p2, e]
    exact near_up (by omega) (by omega) (by omega) (by omega) (by omega)
  have top : py - s.2 = r → nearLeg (legOf (posSq s S (4 * k + 2)) (posSq s S (4 * k + 2 + 1))) (px, py) S = true := fun ha => by
    have e : s.1 - K - S = (s.1 + K + S) - (2 * K + 2 * S) := by omega
    rw [p2, p3, e]
    exact near_left (by omega) (by omega) (by omega) (by omega) (by omega)
  have left : px - s.1 = -r → nearLeg (legOf (posSq s S (4 * k + 3)) (posSq s S (4 * k + 3 + 1))) (px, py) S = true := fun ha => by
    have e : s.2 - K - S = (s.2 + K + S) - (2 * K + 2 * S) := by omega
    rw [p3, p4, e]
    exact near_down (by omega) (by omega) (by omega) (by omega) (by omega)
  have bottom : py - s.2 ≤ -K → nearLeg (legOf (posSq s S (4 * k + 4)) (posSq s S (4 * k + 4 + 1))) (px, py) S = true := fun ha => by
    have e : s.1 + (K + S) + S = (s.1 - K - S) + (2 * K + 3 * S) := by omega
    have e2 : s.2 - (K + S) = s.2 - K - S := by omega
    rw [p4, p5, e, e2]
    exact near_right (by omega) (by omega) (by omega) (by omega) (by omega)
  rcases hr6 with h | h | h | h
  · by_cases hb : -K ≤ py - s.2
    · exact ⟨4 * k + 1, by omega, right h.symm hb⟩
    · exact ⟨4 * k + 4, by omega, bottom (by omega)⟩
  · exact ⟨4 * k + 3, by omega, left h.symm⟩
  · exact ⟨4 * k + 2, by omega, top h.symm⟩
  · exact ⟨4 * k + 4, by omega, bottom (by omega)⟩
end Go.Proofs.Rings
