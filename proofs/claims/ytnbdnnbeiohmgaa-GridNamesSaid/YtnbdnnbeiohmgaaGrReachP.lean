/- GridReaches: the plain law. -/
import Derived.Test.YtnbdnnbeiohmgaaGrGreat
namespace Go.Proofs.Ytnbdnnbeiohmgaa
open Go.RowKit

/-- which cells the merged rows have -/
theorem MergeOf.has {l m : List S2} (h : MergeOf l m) (hl : ∀ s, s ∈ l → s.1 < s.2) (x : Int) : inS x m ↔ inS x l := by
  obtain ⟨l', hp, hs, rfl⟩ := h
  have h1 := (mergeL_spec hs (fun s hm => hl s (hp.mem_iff.1 hm))).2.1 x
  rw [h1]
  constructor
  · rintro ⟨s, hm, r⟩; exact ⟨s, hp.mem_iff.1 hm, r⟩
  · rintro ⟨s, hm, r⟩; exact ⟨s, hp.mem_iff.2 hm, r⟩
theorem reg_has {f : Nat → List S2} {R : List R3} (h : RegOf f R) (hf : ∀ i, i < 256 → ∀ s, s ∈ f i → s.1 < s.2) (x : Int) (y : Nat) (hy : y < 256) : hasL R x y = true ↔ inS x (f y) := by
  obtain ⟨ms, hm, rfl⟩ := h
  rw [← (hm y hy).has (hf y hy) x]
  unfold hasL rowsR
  rw [List.any_eq_true]
  constructor
  · rintro ⟨r, hr, h⟩
    rw [List.mem_flatMap] at hr
    obtain ⟨k, hk, hr⟩ := hr
    simp only [rowR, List.mem_map] at hr
    obtain ⟨s, hs, rfl⟩ := hr
    simp only [hasR, Bool.and_eq_true, beq_iff_eq, decide_eq_true_eq] at h
    have : k = y := by omega
    subst this
    exact ⟨s, hs, h.1.2, h.2⟩
  · rintro ⟨s, hs, h1, h2⟩
    refine ⟨((y : Int), s.1, s.2), ?_, by simp [hasR, h1, h2]⟩
    rw [List.mem_flatMap]
    exact ⟨y, List.mem_range.2 hy, List.mem_map.2 ⟨s, hs, rfl⟩⟩

theorem sq_le {a b : Int} (ha : 0 ≤ a) (h : a ≤ b) : a * a ≤ b * b := Int.mul_le_mul h h ha (by omega)
theorem sq_abs_le {a b : Int} (ha : 0 ≤ a) (h : a ≤ b ∨ a ≤ -b) : a * a ≤ b * b := by
  rcases h with h | h
  · exact sq_le ha h
  · have := sq_le ha h
    rwa [Int.neg_mul_neg] at this

theorem rootEx {n : Int} (h : 0 ≤ n) : ∃ q : Int, 0 ≤ q ∧ q * q ≤ n ∧ n < (q + 1) * (q + 1) := by
  obtain ⟨m, rfl⟩ : ∃ m : Nat, n = m := ⟨n.toNat, by omega⟩
  clear h
  induction m with
  | zero => exact ⟨0, by omega, by omega, by omega⟩
  | succ m ih =>
    obtain ⟨q, h0, h1, h2⟩ := ih
    by_cases hc : (q + 1) * (q + 1) ≤ ((m + 1 : Nat) : Int)
    · refine ⟨q + 1, by omega, hc, ?_⟩
      have e1 : (q + 1 + 1) * (q + 1 + 1) = (q + 1) * (q + 1) + (q + 1) + (q + 1) + 1 := by rw [Int.add_mul, Int.mul_add]; omega
      rw [e1]
      push_cast at *
      omega
    · exact ⟨q, h0, by push_cast at *; omega, by omega⟩

/-- a cell of a spot -/
theorem cell_of {s S c : Int} (hS : 1 ≤ S) (h : s / S = c) : c * S ≤ s ∧ s ≤ c * S + S - 1 := by
  have h1 := Int.mul_ediv_add_emod s S
  have h2 := Int.emod_nonneg s (b := S) (by omega)
  have h3 := Int.emod_lt_of_pos s (b := S) (by omega)
  rw [h, Int.mul_comm] at h1
  omega

theorem away_le {S s a c : Int} (hS : 1 ≤ S) (h : s / S = c) : awayZ S a c * awayZ S a c ≤ (s - a) * (s - a) := by
  obtain ⟨h1, h2⟩ := cell_of hS h
  have h0 : 0 ≤ awayZ S a c := by unfold awayZ; omega
  refine sq_abs_le h0 ?_
  unfold awayZ
  rcases Int.le_total 0 (c * S - a) with k | k
  · left; omega
  · rcases Int.le_total 0 (a - c * S - S + 1) with k2 | k2
    · right; omega
    · rcases Int.le_total 0 (s - a) with k3 | k3
      · left; omega
      · right; omega

/-- which cells the disc has -/
theorem disc_has {W H S ax ay r : Int} {ld R : List R3} {cx cy : Int} (hk : checkG W H S ld = true) (hr : 0 ≤ r ∧ r ≤ 16777216) (hR : RegOf (fillF W (discRow S ax ay r) H.toNat) R) (hx : 0 ≤ cx ∧ cx < W) (hy : 0 ≤ cy ∧ cy < H) :
    hasL R cx cy = decide (awayZ S ax cx * awayZ S ax cx + awayZ S ay cy * awayZ S ay cy ≤ r * r) := by
  obtain ⟨hW, hH, hS, -⟩ := checkG_iff hk
  obtain ⟨n, rfl⟩ : ∃ n : Nat, cy = n := ⟨cy.toNat, by omega⟩
  have key : hasL R cx n = true ↔ awayZ S ax cx * awayZ S ax cx + awayZ S ay n * awayZ S ay n ≤ r * r := by
    rw [reg_has hR (fun i _ s hs => (fillF_mem hs).2.1) cx n (by omega)]
    have hnH : n < H.toNat := by omega
    simp only [fillF, hnH, if_true]
    have hy0 : 0 ≤ awayZ S ay n := by unfold awayZ; omega
    have hx0 : 0 ≤ awayZ S ax cx := by unfold awayZ; omega
    by_cases hd : r < awayZ S ay n
    · have e : discRow S ax ay r n = (0, -1) := by unfold discRow; rw [if_pos hd]
      rw [e]
      have h1 : r * r < awayZ S ay n * awayZ S ay n := by
        have h3 := sq_le (show 0 ≤ r + 1 by omega) (show r + 1 ≤ awayZ S ay n by omega)
        have h4 : (r + 1) * (r + 1) = r * r + r + r + 1 := by rw [Int.add_mul, Int.mul_add]; omega
        omega
      have h2 := Int.mul_nonneg hx0 hx0
      constructor
      · intro h
        obtain ⟨s, hs, -⟩ := h
        have hn : ¬ (max 0 (0 : Int) < min (-1 + 1) W) := by omega
        rw [if_neg hn] at hs
        simp at hs
      · intro h; omega
    · have e : discRow S ax ay r n = ((ax - rootZ (r * r - awayZ S ay n * awayZ S ay n)) / S, (ax + rootZ (r * r - awayZ S ay n * awayZ S ay n)) / S) := by unfold discRow; rw [if_neg hd]
      rw [e]
      have hsq := sq_le hy0 (show awayZ S ay n ≤ r by omega)
      have hrr : r * r ≤ 281474976710656 := by have := sq_le (b := 16777216) hr.1 hr.2; omega
      have hyy := Int.mul_nonneg hy0 hy0
      obtain ⟨q, hq0, hq1, hq2⟩ : ∃ q, 0 ≤ q ∧ q * q ≤ r * r - awayZ S ay n * awayZ S ay n ∧ r * r - awayZ S ay n * awayZ S ay n < (q + 1) * (q + 1) := rootEx (by omega)
      rw [rootZ_eq hq0 hq1 hq2]
      -- the row's cells are those not farther than q
      have hrow : inS cx (if max 0 ((ax - q) / S) < min ((ax + q) / S + 1) W then [(max 0 ((ax - q) / S), min ((ax + q) / S + 1) W)] else []) ↔ awayZ S ax cx ≤ q := by
        have d1 : (ax - q) / S ≤ cx ↔ ax - q < (cx + 1) * S := by
          rw [← Int.lt_add_one_iff, Int.ediv_lt_iff_lt_mul (by omega)]
        have d2 : cx ≤ (ax + q) / S ↔ cx * S ≤ ax + q := Int.le_ediv_iff_mul_le (by omega)
        have e3 : (cx + 1) * S = cx * S + S := by rw [Int.add_mul]; omega
        rw [e3] at d1
        have h4 : inS cx (if max 0 ((ax - q) / S) < min ((ax + q) / S + 1) W then [(max 0 ((ax - q) / S), min ((ax + q) / S + 1) W)] else []) ↔ ((ax - q) / S ≤ cx ∧ cx ≤ (ax + q) / S) := by
          split
          · rw [inS_one]; simp only; omega
          · constructor
            · rintro ⟨s, hs, -⟩; simp at hs
            · intro h; omega
        rw [h4, d1, d2]
        unfold awayZ
        omega
      rw [hrow]
      constructor
      · intro h
        have := sq_le hx0 h
        omega
      · intro h
        by_cases hc : awayZ S ax cx ≤ q
        · exact hc
        · have := sq_le (show 0 ≤ q + 1 by omega) (show q + 1 ≤ awayZ S ax cx by omega)
          omega
  cases h : hasL R cx n with
  | true => rw [h] at key; simp [key.1 rfl]
  | false =>
    rw [h] at key
    symm
    rw [decide_eq_false_iff_not]
    intro hc
    exact absurd (key.2 hc) (by simp)

theorem halfRow_has {W : Int} {L : Int → Bool} {c : Int} (hl : L c = true) (hx : 0 ≤ c ∧ c < W) : (halfRow W L).1 ≤ c ∧ c ≤ (halfRow W L).2 := by
  have a := upTo_spec (L := L) (hi := W - 1) W.toNat 0
  have b := dnTo_spec (L := L) (lo := upTo L (W - 1) W.toNat 0) W.toNat (W - 1)
  constructor
  · by_cases hc : (halfRow W L).1 ≤ c
    · exact hc
    · have := a.2.2 c hx.1 (by simp only [halfRow] at hc; omega)
      rw [hl] at this
      cases this
  · by_cases hc : c ≤ (halfRow W L).2
    · exact hc
    · have := b.2.2 c (by simp only [halfRow] at hc; omega) (by omega)
      rw [hl] at this
      cases this

/-- a cell of a spot that is to the left is in the half -/
theorem half_has {W H S ax ay bx by' sx sy : Int} {ld R : List R3} {cx cy : Int} (hk : checkG W H S ld = true) (hR : RegOf (fillF W (fun y => halfRow W (fun x => leftB S ax ay bx by' x y)) H.toNat) R) (hx : 0 ≤ cx ∧ cx < W) (hy : 0 ≤ cy ∧ cy < H)
    (hcx : sx / S = cx) (hcy : sy / S = cy) (h : 0 ≤ (bx - ax) * (sy - ay) - (by' - ay) * (sx - ax)) : hasL R cx cy = true := by
  obtain ⟨hW, hH, hS, -⟩ := checkG_iff hk
  obtain ⟨n, rfl⟩ : ∃ n : Nat, cy = n := ⟨cy.toNat, by omega⟩
  have c1 := cell_of hS.1 hcx
  have c2 := cell_of hS.1 hcy
  have hl : leftB S ax ay bx by' cx n = true := by
    unfold leftB
    rw [decide_eq_true_eq]
    have u1 : (bx - ax) * (sy - ay) ≤ (bx - ax) * (cornY S (bx - ax) n - ay) := by
      unfold cornY
      split
      · exact Int.mul_le_mul_of_nonneg_left (by omega) (by omega)
      · exact Int.mul_le_mul_of_nonpos_left (by omega) (by omega)
    have u2 : (by' - ay) * (cornX S (by' - ay) cx - ax) ≤ (by' - ay) * (sx - ax) := by
      unfold cornX
      split
      · exact Int.mul_le_mul_of_nonpos_left (by omega) (by omega)
      · exact Int.mul_le_mul_of_nonneg_left (by omega) (by omega)
    omega
  rw [reg_has hR (fun i _ s hs => (fillF_mem hs).2.1) cx n (by omega)]
  have hnH : n < H.toNat := by omega
  simp only [fillF, hnH, if_true]
  have hh := halfRow_has (W := W) (L := fun x => leftB S ax ay bx by' x n) hl hx
  rw [if_pos (by omega), inS_one]
  simp only
  omega
end Go.Proofs.Ytnbdnnbeiohmgaa
