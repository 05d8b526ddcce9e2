/- the comb: plain facts. -/
import Derived.Test.YtnbdnnbeiohmgaaDoorOtConn
namespace Go.Proofs.YtnbdnnbeiohmgaaDoor
open Go.RowKit

def teeth (y t i : Nat) : List R3 := (List.range i).map fun j => ((y : Int), ((j * t : Nat) : Int), ((j * t + 1 : Nat) : Int))
def combL (w t n h : Nat) : List R3 := ((0 : Int), (0 : Int), (w : Int)) :: (List.range h).flatMap fun j => teeth (j + 1) t n
theorem teeth_succ (y t i : Nat) : teeth y t (i + 1) = teeth y t i ++ [((y : Int), ((i * t : Nat) : Int), ((i * t + 1 : Nat) : Int))] := by simp [teeth, List.range_succ]
theorem combL_succ (w t n h : Nat) : combL w t n (h + 1) = combL w t n h ++ teeth (h + 1) t n := by simp [combL, List.range_succ]
theorem combL_len (w t n h : Nat) : (combL w t n h).length = 1 + h * n := by
  induction h with
  | zero => simp [combL]
  | succ h ih => rw [combL_succ, List.length_append, ih]; simp [teeth, Nat.succ_mul]; omega
/-- the last run -/
def lastOf (p : R3) (l : List R3) : R3 := l.getLast?.getD p
theorem rightL_snocO (W H : Int) : ∀ (l : List R3) (p x : R3), rightL W H p (l ++ [x]) = (rightL W H p l && okR W H (lastOf p l) x)
  | [], p, x => by simp [rightL, lastOf]
  | y :: l, p, x => by
    have := rightL_snocO W H l y x
    rw [List.cons_append, rightL, this, rightL, Bool.and_assoc]
    congr 3
    unfold lastOf
    cases l with
    | nil => rfl
    | cons z l => simp [List.getLast?_cons]
def Good (l : List R3) (y x : Int) : Prop := rightL 256 6 (-1, 0, 0) l = true ∧ ((lastOf (-1, 0, 0) l).1 < y ∨ (lastOf (-1, 0, 0) l).1 = y ∧ (lastOf (-1, 0, 0) l).2.2 < x)
theorem Good.add {l : List R3} {y x x' : Int} (h : Good l y x) (hy : 1 ≤ y ∧ y ≤ 5) (hx : 0 ≤ x ∧ x + 1 ≤ 256) (hx' : x + 1 < x') : Good (l ++ [(y, x, x + 1)]) y x' := by
  obtain ⟨h1, h2⟩ := h
  refine ⟨?_, ?_⟩
  · rw [rightL_snocO, h1]
    have e : wrap64 (x + 1 - 1) = x := by rw [show x + 1 - 1 = x by omega]; exact wrapId _ (by omega) (by omega)
    simp only [okR, inB, e, Bool.true_and, Bool.and_eq_true, decide_eq_true_eq, Bool.not_eq_true', Bool.and_eq_false_iff, beq_eq_false_iff_ne, ne_eq, decide_eq_false_iff_not]
    refine ⟨⟨⟨?_, ?_⟩, ?_⟩, ?_⟩
    · omega
    · omega
    · omega
    · rcases h2 with h2 | h2
      · exact .inl (by omega)
      · exact .inr (by omega)
  · right
    simp [lastOf]
    omega
theorem Good.row {l : List R3} {y x : Int} (h : Good l y x) : Good l (y + 1) 0 := ⟨h.1, .inl (by rcases h.2 with h | h <;> omega)⟩
theorem good_teeth (l : List R3) (y t : Nat) (ht : 2 ≤ t) (hy : 1 ≤ y ∧ y ≤ 5) (h : Good l y 0) : ∀ i : Nat, (∀ j, j < i → j * t < 256) → Good (l ++ teeth y t i) y ((i * t : Nat) : Int)
  | 0, _ => by simpa [teeth] using h
  | i + 1, hi => by
    have h1 := good_teeth l y t ht hy h i (fun j hj => hi j (by omega))
    have h2 := hi i (by omega)
    rw [teeth_succ, ← List.append_assoc]
    have e : ((i * t + 1 : Nat) : Int) = ((i * t : Nat) : Int) + 1 := by omega
    rw [e]
    refine h1.add (by omega) (by omega) ?_
    rw [Nat.succ_mul]
    omega
theorem good_comb (w t n : Nat) (hw : 1 ≤ w ∧ w ≤ 256) (ht : 2 ≤ t) (hn : ∀ j, j < n → j * t < w) : ∀ h : Nat, h ≤ 4 → Good (combL w t n h) ((h : Int) + 1) 0
  | 0, _ => by
    have e : wrap64 ((w : Int) - 1) = w - 1 := wrapId _ (by omega) (by omega)
    refine ⟨?_, .inl ?_⟩
    · simp [combL, rightL, okR, inB, e]
      omega
    · simp [combL, lastOf]
  | h + 1, h4 => by
    have h1 := good_comb w t n hw ht hn h (by omega)
    rw [combL_succ]
    have h2 := good_teeth _ (h + 1) t ht (by omega) (by simpa using h1) n (fun j hj => by have := hn j hj; omega)
    have := h2.row
    simpa using this
theorem comb_right (w t n h : Nat) (hw : 1 ≤ w ∧ w ≤ 256) (ht : 2 ≤ t) (hn : ∀ j, j < n → j * t < w) (hn2 : n ≤ 128) (h4 : h ≤ 4) : rightB 256 6 (combL w t n h) = true := by
  have h1 := (good_comb w t n hw ht hn h h4).1
  have h2 := combL_len w t n h
  have h3 : h * n ≤ 4 * 128 := Nat.mul_le_mul h4 hn2
  unfold rightB
  rw [h1, decide_eq_true (by omega)]
  rfl
theorem mem_cellsL {l : List R3} {p q : Int} : (p, q) ∈ cellsL l ↔ ∃ r, r ∈ l ∧ q = r.1 ∧ r.2.1 ≤ p ∧ p < r.2.2 := by
  simp only [cellsL, cellsR, rowC, List.mem_flatMap, List.mem_map, List.mem_range, Prod.mk.injEq]
  constructor
  · rintro ⟨r, hr, j, hj, h1, h2⟩
    exact ⟨r, hr, h2.symm, by omega, by omega⟩
  · rintro ⟨r, hr, h1, h2, h3⟩
    exact ⟨r, hr, (p - r.2.1).toNat, by omega, by omega, h1.symm⟩
theorem mem_comb {w t n h : Nat} {p q : Int} : (p, q) ∈ cellsL (combL w t n h) ↔ (q = 0 ∧ 0 ≤ p ∧ p < w) ∨ ∃ y j : Nat, 1 ≤ y ∧ y ≤ h ∧ j < n ∧ q = y ∧ p = ((j * t : Nat) : Int) := by
  rw [mem_cellsL]
  simp only [combL, List.mem_cons, List.mem_flatMap, List.mem_range, teeth, List.mem_map]
  constructor
  · rintro ⟨r, rfl | ⟨y, hy, j, hj, rfl⟩, h1, h2, h3⟩
    · exact .inl ⟨h1, h2, h3⟩
    · dsimp only at h1 h2 h3
      exact .inr ⟨y + 1, j, by omega, by omega, hj, h1, by omega⟩
  · rintro (⟨h1, h2, h3⟩ | ⟨y, j, h1, h2, h3, h4, h5⟩)
    · exact ⟨_, .inl rfl, h1, h2, h3⟩
    · exact ⟨((y : Int), ((j * t : Nat) : Int), ((j * t + 1 : Nat) : Int)), .inr ⟨y - 1, by omega, j, h3, by rw [show y - 1 + 1 = y by omega]⟩, h4, by dsimp only; omega, by dsimp only; omega⟩
theorem comb_conn (w t n h : Nat) (hw : 1 ≤ w) (hn : ∀ j, j < n → j * t < w) : Conn (inC (cellsL (combL w t n h))) (0, 0) := by
  intro S' h0 hs p q hp
  have hin : ∀ p q : Int, (p, q) ∈ cellsL (combL w t n h) → inC (cellsL (combL w t n h)) p q = true := fun p q h => by simpa [inC] using h
  have base : ∀ x : Nat, x < w → S' (x : Int) 0 = false := by
    intro x
    induction x with
    | zero => intro _; exact h0
    | succ x ih =>
      intro hx
      have := hs x 0 (hin _ _ (mem_comb.2 (.inl ⟨rfl, by omega, by omega⟩))) (ih (by omega)) ((x : Int) + 1, 0) (by simp [sidesL])
      simpa using this
  simp only [inC, decide_eq_true_eq] at hp
  rcases mem_comb.1 hp with ⟨rfl, h1, h2⟩ | ⟨y, j, h1, h2, h3, rfl, rfl⟩
  · have := base p.toNat (by omega)
    rwa [Int.toNat_of_nonneg h1] at this
  · have hj := hn j h3
    have col : ∀ y : Nat, y ≤ h → S' ((j * t : Nat) : Int) (y : Int) = false := by
      intro y
      induction y with
      | zero => intro _; exact base (j * t) hj
      | succ y ih =>
        intro hy
        have hm : inC (cellsL (combL w t n h)) ((j * t : Nat) : Int) (y : Int) = true := by
          refine hin _ _ (mem_comb.2 ?_)
          by_cases h0 : y = 0
          · exact .inl ⟨by omega, by omega, by omega⟩
          · exact .inr ⟨y, j, by omega, by omega, h3, rfl, rfl⟩
        have := hs _ _ hm (ih (by omega)) (((j * t : Nat) : Int), (y : Int) + 1) (by simp [sidesL])
        simpa using this
    exact col y h2
theorem cellsL_append (l m : List R3) : cellsL (l ++ m) = cellsL l ++ cellsL m := by simp [cellsL]
theorem teeth_cells (y t i : Nat) : (cellsL (teeth y t i)).length = i := by
  induction i with
  | zero => simp [teeth, cellsL]
  | succ i ih =>
    rw [teeth_succ, cellsL_append, List.length_append, ih]
    have e : (((i * t + 1 : Nat) : Int) - ((i * t : Nat) : Int)).toNat = 1 := by omega
    simp only [cellsL, cellsR, List.flatMap_cons, List.flatMap_nil, List.append_nil, rowC_len, e]
theorem comb_cells (w t n h : Nat) : (cellsL (combL w t n h)).length = w + h * n := by
  induction h with
  | zero => simp [combL, cellsL, cellsR, rowC_len]
  | succ h ih => rw [combL_succ, cellsL_append, List.length_append, ih, teeth_cells, Nat.succ_mul]; omega
theorem comb_head (w t n h : Nat) (hw : 1 ≤ w) : ∃ cs, cellsL (combL w t n h) = (0, 0) :: cs := by
  obtain ⟨m, rfl⟩ : ∃ m, w = m + 1 := ⟨w - 1, by omega⟩
  have e : (((m + 1 : Nat) : Int) - 0).toNat = m + 1 := by omega
  simp only [combL, cellsL, List.flatMap_cons, cellsR, e, rowC, List.range_succ_eq_map, List.map_cons, List.cons_append]
  exact ⟨_, rfl⟩
theorem comb_one (w t n h : Nat) (hw : 1 ≤ w) (hn : ∀ j, j < n → j * t < w) : (partsL (cellsL (combL w t n h))).length = 1 := by
  have hc := comb_conn w t n h hw hn
  obtain ⟨cs, hcs⟩ := comb_head w t n h hw
  rw [hcs] at hc ⊢
  exact partsL_one hc
end Go.Proofs.YtnbdnnbeiohmgaaDoor
