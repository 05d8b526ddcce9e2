/- GridMoves: the plain law. -/
import Derived.Test.YtnbdnnbeiohmgaaGrReach
import Derived.Test.YtnbdnnbeiohmgaaGrCells
namespace Go.Proofs.Ytnbdnnbeiohmgaa
open Go.RowKit

theorem rowsR_le {ms : Nat → List S2} {W H : Nat} (h1 : ∀ y, y < H → (ms y).length ≤ W) (h2 : ∀ y, H ≤ y → ms y = []) : ∀ n, (rowsR ms n).length ≤ H * W
  | 0 => by simp [rowsR]
  | n + 1 => by
    have key : ∀ n, n ≤ H → (rowsR ms n).length ≤ n * W := by
      intro n
      induction n with
      | zero => intro _; simp [rowsR]
      | succ n ih =>
        intro hn
        have a1 := ih (by omega)
        have a2 := h1 n (by omega)
        rw [rowsR_succ, List.length_append, Nat.add_mul]
        simp only [rowR, List.length_map]
        omega
    by_cases hn : n + 1 ≤ H
    · exact Nat.le_trans (key _ hn) (Nat.mul_le_mul_right W hn)
    · rw [rowsR_succ, h2 n (by omega)]
      simpa [rowR] using rowsR_le h1 h2 n
/-- a merged region has no more runs than cells -/
theorem reg_len {W H : Int} {L : Lead} {l R : List R3} (hW : 1 ≤ W ∧ W ≤ 256) (hH : 1 ≤ H ∧ H ≤ 256) (h : RegOf (growF W H L l) R) (hm : W * H ≤ 4096) : R.length ≤ 8192 := by
  obtain ⟨ms, hms, rfl⟩ := h
  have hS : ∀ y, y < 256 → Sep (ms y) ∧ ∀ s, s ∈ ms y → 0 ≤ s.1 ∧ s.2 ≤ W := fun y hy => by
    obtain ⟨l', hp, hs, e⟩ := hms y hy
    have hl : ∀ s, s ∈ l' → s.1 < s.2 := fun s hx => (growF_mem (hp.mem_iff.1 hx)).2.2.1
    obtain ⟨h1, -, h3⟩ := mergeL_spec hs hl
    rw [e]
    refine ⟨h1, fun s hx => ?_⟩
    obtain ⟨⟨u, hu, e1⟩, v, hv, e2⟩ := h3 s hx
    have := growF_mem (hp.mem_iff.1 hu)
    have := growF_mem (hp.mem_iff.1 hv)
    omega
  have hE : ∀ y, y < 256 → H.toNat ≤ y → ms y = [] := fun y hy hh => by
    have h1 := (hms y hy).length
    have h2 : growF W H L l y = [] := by
      rcases List.eq_nil_or_concat (growF W H L l y) with e | ⟨o, s, e⟩
      · exact e
      · have := growF_mem (W := W) (H := H) (L := L) (l := l) (i := y) (s := s) (by rw [e]; simp)
        omega
    rw [h2] at h1
    exact List.eq_nil_of_length_eq_zero (by simpa using h1)
  have e1 : rowsR ms 256 = rowsR (fun y => if y < 256 then ms y else []) 256 := by
    unfold rowsR
    rw [List.flatMap_eq_foldl, List.flatMap_eq_foldl]
    have : ∀ (m : List Nat) (acc : List R3), (∀ y, y ∈ m → y < 256) → m.foldl (fun acc y => acc ++ rowR y (ms y)) acc = m.foldl (fun acc y => acc ++ rowR y (if y < 256 then ms y else [])) acc := by
      intro m
      induction m with
      | nil => intro acc _; rfl
      | cons y m ih =>
        intro acc hy
        simp only [List.foldl_cons, hy y (by simp), if_true]
        exact ih _ (fun z hz => hy z (by simp [hz]))
    exact this _ _ (fun y hy => List.mem_range.1 hy)
  rw [e1]
  have h2 := rowsR_le (ms := fun y => if y < 256 then ms y else []) (W := W.toNat) (H := H.toNat) (fun y hy => by
      have h3 := (hS y (by omega))
      have h4 := Sep_length (lo := 0) (hi := W) h3.1 h3.2 (by omega)
      simp only [show y < 256 by omega, if_true]
      omega) (fun y hy => by
      by_cases hy2 : y < 256
      · simp only [hy2, if_true]; exact hE y hy2 hy
      · simp only [hy2, if_false]) 256
  have h3 : ((H.toNat * W.toNat : Nat) : Int) = W * H := by
    rw [Int.natCast_mul, Int.toNat_of_nonneg (by omega), Int.toNat_of_nonneg (by omega), Int.mul_comm]
  omega

/-- the cells of a region: each of a run -/
theorem cellsL_in {l : List R3} {cx cy : Int} (h : (cx, cy) ∈ cellsL l) : ∃ r, r ∈ l ∧ cy = r.1 ∧ r.2.1 ≤ cx ∧ cx < r.2.2 := by
  rw [cellsL, List.mem_flatMap] at h
  obtain ⟨r, hr, h⟩ := h
  simp only [cellsR, rowC, List.mem_map, List.mem_range, Prod.mk.injEq] at h
  obtain ⟨j, hj, e1, e2⟩ := h
  exact ⟨r, hr, e2.symm, by omega, by omega⟩

theorem div_lo {S x k : Int} (hS : 1 ≤ S) (h : k * S ≤ x) : k ≤ x / S := (Int.le_ediv_iff_mul_le (by omega)).2 h
theorem div_hi {S x k : Int} (hS : 1 ≤ S) (h : x < k * S) : x / S < k := (Int.ediv_lt_iff_lt_mul (by omega)).2 h
theorem div_le' {S x : Int} (hS : 1 ≤ S) : x / S * S ≤ x := Int.ediv_mul_le _ (by omega)
theorem div_gt {S x : Int} (hS : 1 ≤ S) : x < (x / S + 1) * S := Int.lt_ediv_add_one_mul_self _ (by omega)

/-- one coordinate: a place of a cell c, moved by m, is in a cell that its lead reaches, and back -/
theorem lead_to {S c p m a b : Int} (hS : 1 ≤ S) (hp : 0 ≤ p ∧ p < S) (hm : a ≤ m ∧ m ≤ b) :
    (c + a / S ≤ (c * S + p + m) / S ∧ (c * S + p + m) / S ≤ c + (S - 1 + b) / S) ∧ ((c * S + p + m) / S + (-b) / S ≤ c ∧ c ≤ (c * S + p + m) / S + (S - 1 - a) / S) := by
  obtain ⟨X, hX⟩ : ∃ X, c * S + p + m = X := ⟨_, rfl⟩
  rw [hX]
  have e1 := div_le' (S := S) (x := a) hS
  have e2 := div_gt (S := S) (x := S - 1 + b) hS
  have e3 := div_le' (S := S) (x := X) hS
  have e4 := div_gt (S := S) (x := X) hS
  have e5 := div_le' (S := S) (x := -b) hS
  have e6 := div_gt (S := S) (x := S - 1 - a) hS
  refine ⟨⟨div_lo hS ?_, ?_⟩, ?_, ?_⟩
  · rw [Int.add_mul]; omega
  · have := div_hi (S := S) (x := X) (k := c + (S - 1 + b) / S + 1) hS (by rw [Int.add_assoc, Int.add_mul]; omega)
    omega
  · -- (X/S + (-b)/S) * S ≤ X - b ≤ c*S + p < (c+1)*S
    have h1 : (X / S + -b / S) * S < (c + 1) * S := by rw [Int.add_mul, Int.add_mul]; omega
    have := Int.lt_of_mul_lt_mul_right h1 (by omega)
    omega
  · have h1 : c * S < (X / S + 1 + ((S - 1 - a) / S)) * S := by
      rw [Int.add_mul, Int.add_mul] at *
      omega
    have := Int.lt_of_mul_lt_mul_right h1 (by omega)
    omega

theorem nearC_of {n : Int} (h : -16777216 ≤ n ∧ n ≤ 16777216) : nearC n = true := by
  simp only [nearC, inB, Bool.and_eq_true, decide_eq_true_eq]
  exact h

/-- the region of one cell of the grid -/
theorem one_ok {W H S x y : Int} {ld : List R3} (hk : checkG W H S ld = true) (hx : 0 ≤ x ∧ x < W) (hy : 0 ≤ y ∧ y < H) : checkRs W H S ld [[(y, x, x + 1)]] = true := by
  obtain ⟨hW, hH, hS, -⟩ := checkG_iff hk
  have e : wrap64 (x + 1 - 1) = x + 1 - 1 := wrapId _ (by omega) (by omega)
  simp only [checkRs, hk, List.all_cons, List.all_nil, rightB, rightL, okR, inB, Bool.and_true, Bool.true_and, Bool.and_eq_true, decide_eq_true_eq, e]
  simp
  omega

/-- how a coordinate was moved: what lead_to says of it -/
def Led (S c e a b : Int) : Prop := (c + a / S ≤ e / S ∧ e / S ≤ c + (S - 1 + b) / S) ∧ (e / S + (-b) / S ≤ c ∧ c ≤ e / S + (S - 1 + -a) / S)
theorem led_of {S c p m a b e : Int} (hS : 1 ≤ S) (hp : 0 ≤ p ∧ p < S) (hm : a ≤ m ∧ m ≤ b) (he : c * S + p + m = e) : Led S c e a b := by
  subst he
  have h := lead_to (c := c) hS hp hm
  rw [show S - 1 - a = S - 1 + -a by omega] at h
  exact h

theorem off_of {W H S a b c d cx cy ex ey : Int} {l : List R3} (hW : 1 ≤ W ∧ W ≤ 256) (hH : 1 ≤ H ∧ H ≤ 256) (hS : 1 ≤ S ∧ S ≤ 50000) (hl : ∀ r, r ∈ l → 0 ≤ r.1 ∧ r.1 ≤ H - 1 ∧ 0 ≤ r.2.1 ∧ r.2.1 ≤ wrap64 (r.2.2 - 1) ∧ r.2.2 ≤ W)
    (hp : pushB a b c d = true) (hin : (cx, cy) ∈ cellsL l) (hx : Led S cx ex a c) (hy : Led S cy ey b d) (h : ex < 0 ∨ ey < 0 ∨ W * S ≤ ex ∨ H * S ≤ ey) : offL W H (leadOf S a b c d) l = true := by
  obtain ⟨r, hr, hry, hrf, hrt⟩ := cellsL_in hin
  have hb := hl r hr
  obtain ⟨pa, pb, pc, pd⟩ := pushB_iff hp
  have l1 := div_in (n := a) hS.1 (by omega)
  have l2 := div_in (n := S - 1 + c) hS.1 (by omega)
  have e1 : wrap64 (r.2.1 + a / S) = r.2.1 + a / S := wrapId _ (by omega) (by omega)
  have e2 : wrap64 (r.2.2 + (S - 1 + c) / S) = r.2.2 + (S - 1 + c) / S := wrapId _ (by omega) (by omega)
  unfold offL
  rw [List.any_eq_true]
  refine ⟨r, hr, ?_⟩
  simp only [offR, Bool.or_eq_true, decide_eq_true_eq]
  show ((wrap64 (r.2.1 + a / S) < 0 ∨ W < wrap64 (r.2.2 + (S - 1 + c) / S)) ∨ r.1 + b / S < 0) ∨ H ≤ r.1 + (S - 1 + d) / S
  rw [e1, e2]
  have hx1 := hx.1
  have hy1 := hy.1
  rcases h with h | h | h | h
  · have := div_hi (S := S) (x := ex) (k := 0) hS.1 (by omega)
    omega
  · have := div_hi (S := S) (x := ey) (k := 0) hS.1 (by omega)
    omega
  · have := div_lo (S := S) (x := ex) (k := W) hS.1 h
    omega
  · have := div_lo (S := S) (x := ey) (k := H) hS.1 h
    omega

theorem grown_has {W H S a b c d x y : Int} {l R : List R3} (hW : 1 ≤ W ∧ W ≤ 256) (hH : 1 ≤ H ∧ H ≤ 256) (hS : 1 ≤ S ∧ S ≤ 50000) (hp : pushB a b c d = true) (hR : RegOf (growF W H (leadOf S a b c d) l) R) {r : R3} (hr : r ∈ l)
    (hb : 0 ≤ r.2.1 ∧ r.2.1 ≤ 256 ∧ 0 ≤ r.2.2 ∧ r.2.2 ≤ 256) (hx : 0 ≤ x ∧ x < W) (hy : 0 ≤ y ∧ y < H) (h1 : r.2.1 + a / S ≤ x ∧ x < r.2.2 + (S - 1 + c) / S) (h2 : r.1 + b / S ≤ y ∧ y ≤ r.1 + (S - 1 + d) / S) : hasL R x y = true := by
  obtain ⟨pa, pb, pc, pd⟩ := pushB_iff hp
  have l1 := div_in (n := a) hS.1 (by omega)
  have l2 := div_in (n := S - 1 + c) hS.1 (by omega)
  have e1 : wrap64 (r.2.1 + a / S) = r.2.1 + a / S := wrapId _ (by omega) (by omega)
  have e2 : wrap64 (r.2.2 + (S - 1 + c) / S) = r.2.2 + (S - 1 + c) / S := wrapId _ (by omega) (by omega)
  obtain ⟨n, rfl⟩ : ∃ n : Nat, y = n := ⟨y.toNat, by omega⟩
  rw [reg_has hR (fun i _ s hs => (growF_mem hs).2.2.1) x n (by omega)]
  exact growF_has hr hy.2 h2 hx (by simp only [leadOf, e1, e2]; exact h1)

theorem in_of {W H S a b c d cx cy ex ey : Int} {l R : List R3} (hW : 1 ≤ W ∧ W ≤ 256) (hH : 1 ≤ H ∧ H ≤ 256) (hS : 1 ≤ S ∧ S ≤ 50000) (hl : ∀ r, r ∈ l → 0 ≤ r.1 ∧ r.1 ≤ H - 1 ∧ 0 ≤ r.2.1 ∧ r.2.1 ≤ wrap64 (r.2.2 - 1) ∧ r.2.2 ≤ W)
    (hp : pushB a b c d = true) (hR : RegOf (growF W H (leadOf S a b c d) l) R) (hin : (cx, cy) ∈ cellsL l) (hx : Led S cx ex a c) (hy : Led S cy ey b d) (hex : 0 ≤ ex / S ∧ ex / S < W) (hey : 0 ≤ ey / S ∧ ey / S < H) : hasL R (ex / S) (ey / S) = true := by
  obtain ⟨r, hr, hry, hrf, hrt⟩ := cellsL_in hin
  have hb := hl r hr
  have hx1 := hx.1
  have hy1 := hy.1
  exact grown_has hW hH hS hp hR hr (by omega) hex hey (by omega) (by omega)

theorem back_of {W H S a b c d cx cy ex ey : Int} {R : List R3} (hW : 1 ≤ W ∧ W ≤ 256) (hH : 1 ≤ H ∧ H ≤ 256) (hS : 1 ≤ S ∧ S ≤ 50000) (hp : pushB a b c d = true) (hR : RegOf (growF W H (leadOf S (-c) (-d) (-a) (-b)) [(ey / S, ex / S, ex / S + 1)]) R)
    (hcx : 0 ≤ cx ∧ cx < W) (hcy : 0 ≤ cy ∧ cy < H) (hx : Led S cx ex a c) (hy : Led S cy ey b d) (hex : 0 ≤ ex / S ∧ ex / S < W) (hey : 0 ≤ ey / S ∧ ey / S < H) : hasL R cx cy = true := by
  have hx1 := hx.2
  have hy1 := hy.2
  have hp2 : pushB (-c) (-d) (-a) (-b) = true := by
    obtain ⟨pa, pb, pc, pd⟩ := pushB_iff hp
    simp only [pushB, inB, Bool.and_eq_true, decide_eq_true_eq]
    omega
  exact grown_has hW hH hS hp2 hR (r := (ey / S, ex / S, ex / S + 1)) (by simp) (by dsimp only; omega) hcx hcy (by dsimp only; omega) (by dsimp only; omega)
end Go.Proofs.Ytnbdnnbeiohmgaa
