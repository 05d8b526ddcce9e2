/- the walk along a region's border, plain. -/
import Derived.Test.YtnbdnnbeiohmgaaDoorPtPlain
namespace Go.Proofs.YtnbdnnbeiohmgaaDoor

def dirO : Nat → Int × Int
  | 0 => (1, 0)
  | 1 => (0, 1)
  | 2 => (-1, 0)
  | _ => (0, -1)
def corO : Nat → Int × Int
  | 0 => (0, 0)
  | 1 => (-1, 0)
  | 2 => (-1, -1)
  | _ => (0, -1)
/-- is the cell ahead to the left of a corner in the region? -/
def landO (S : Int → Int → Bool) (x y : Int) (w : Nat) : Bool := S (x + (corO w).1) (y + (corO w).2)
/-- where the border turns at a corner -/
def turnO (S : Int → Int → Bool) (x y : Int) (w : Nat) : Option Nat := if landO S x y w = false then some ((w + 1) % 4) else if landO S x y ((w + 3) % 4) = true then some ((w + 3) % 4) else none
/-- the walk: `some none`: too long -/
def outO (S : Int → Int → Bool) (sz fx fy : Int) : Nat → Int → Int → Nat → List (Int × Int) → Option (Option (List (Int × Int)))
  | 0, _, _, _, _ => none
  | k + 1, x, y, w, out =>
    match turnO S (x + (dirO w).1) (y + (dirO w).2) w with
    | none => outO S sz fx fy k (x + (dirO w).1) (y + (dirO w).2) w out
    | some w' => if out.length = 1024 then some none else
        if x + (dirO w).1 = fx ∧ y + (dirO w).2 = fy then some (some (out ++ [((x + (dirO w).1) * sz, (y + (dirO w).2) * sz)])) else outO S sz fx fy k (x + (dirO w).1) (y + (dirO w).2) w' (out ++ [((x + (dirO w).1) * sz, (y + (dirO w).2) * sz)])
theorem turnO_lt {S : Int → Int → Bool} {x y : Int} {w w' : Nat} (h : turnO S x y w = some w') : w' < 4 := by
  unfold turnO at h
  split at h
  · cases h; omega
  · split at h
    · cases h; omega
    · cases h
theorem turnO_none {S : Int → Int → Bool} {x y : Int} {w : Nat} (h : turnO S x y w = none) : landO S x y w = true := by
  unfold turnO at h
  split at h
  · cases h
  · rename_i e
    simpa using e
/-- how far it may go ahead -/
def farO (W H x y : Int) (w : Nat) : Nat :=
  match w with
  | 0 => (W - (x + (dirO 0).1 + (corO 0).1)).toNat
  | 1 => (H - (y + (dirO 1).2 + (corO 1).2)).toNat
  | 2 => (x + (dirO 2).1 + (corO 2).1 + 1).toNat
  | _ => (y + (dirO 3).2 + (corO 3).2 + 1).toNat
theorem farO_less {S : Int → Int → Bool} {W H x y : Int} {w : Nat} (hS : ∀ p q, S p q = true → (0 ≤ p ∧ p < W) ∧ 0 ≤ q ∧ q < H) (h4 : w < 4) (h : landO S (x + (dirO w).1) (y + (dirO w).2) w = true) : farO W H (x + (dirO w).1) (y + (dirO w).2) w < farO W H x y w := by
  have h1 := hS _ _ h
  match w, h4 with
  | 0, _ => simp only [farO, dirO, corO] at h1 ⊢; omega
  | 1, _ => simp only [farO, dirO, corO] at h1 ⊢; omega
  | 2, _ => simp only [farO, dirO, corO] at h1 ⊢; omega
  | 3, _ => simp only [farO, dirO, corO] at h1 ⊢; omega
/-- the walk ends -/
theorem outO_ends (S : Int → Int → Bool) (sz fx fy W H : Int) (hS : ∀ p q, S p q = true → (0 ≤ p ∧ p < W) ∧ 0 ≤ q ∧ q < H) : ∀ (n m : Nat) (x y : Int) (w : Nat) (out : List (Int × Int)), w < 4 → out.length + n = 1024 → farO W H x y w ≤ m → ∃ k v, outO S sz fx fy k x y w out = some v := by
  intro n
  induction n with
  | zero =>
    intro m
    induction m with
    | zero =>
      intro x y w out h4 hl hm
      cases ht : turnO S (x + (dirO w).1) (y + (dirO w).2) w with
      | none => have := farO_less hS h4 (turnO_none ht); omega
      | some w' => exact ⟨1, none, by rw [outO, ht]; simp only [if_pos (show out.length = 1024 by omega)]⟩
    | succ m ih =>
      intro x y w out h4 hl hm
      cases ht : turnO S (x + (dirO w).1) (y + (dirO w).2) w with
      | none =>
        have := farO_less hS h4 (turnO_none ht)
        obtain ⟨k, v, h⟩ := ih (x + (dirO w).1) (y + (dirO w).2) w out h4 hl (by omega)
        exact ⟨k + 1, v, by rw [outO, ht]; exact h⟩
      | some w' => exact ⟨1, none, by rw [outO, ht]; simp only [if_pos (show out.length = 1024 by omega)]⟩
  | succ n ihn =>
    have key : ∀ (x y : Int) (w : Nat) (out : List (Int × Int)) (w' : Nat), out.length + (n + 1) = 1024 → turnO S (x + (dirO w).1) (y + (dirO w).2) w = some w' → ∃ k v, outO S sz fx fy k x y w out = some v := by
      intro x y w out w' hl ht
      by_cases hf : x + (dirO w).1 = fx ∧ y + (dirO w).2 = fy
      · exact ⟨1, _, by rw [outO, ht]; simp only [if_neg (show ¬ out.length = 1024 by omega), if_pos hf]; rfl⟩
      · obtain ⟨k, v, h⟩ := ihn (farO W H (x + (dirO w).1) (y + (dirO w).2) w') (x + (dirO w).1) (y + (dirO w).2) w' (out ++ [((x + (dirO w).1) * sz, (y + (dirO w).2) * sz)]) (turnO_lt ht) (by simp; omega) (Nat.le_refl _)
        exact ⟨k + 1, v, by rw [outO, ht]; simp only [if_neg (show ¬ out.length = 1024 by omega), if_neg hf]; exact h⟩
    intro m
    induction m with
    | zero =>
      intro x y w out h4 hl hm
      cases ht : turnO S (x + (dirO w).1) (y + (dirO w).2) w with
      | none => have := farO_less hS h4 (turnO_none ht); omega
      | some w' => exact key x y w out w' hl ht
    | succ m ih =>
      intro x y w out h4 hl hm
      cases ht : turnO S (x + (dirO w).1) (y + (dirO w).2) w with
      | none =>
        have := farO_less hS h4 (turnO_none ht)
        obtain ⟨k, v, h⟩ := ih (x + (dirO w).1) (y + (dirO w).2) w out h4 hl (by omega)
        exact ⟨k + 1, v, by rw [outO, ht]; exact h⟩
      | some w' => exact key x y w out w' hl ht
/-- the outline of a set from a first corner on -/
theorem outO_some (S : Int → Int → Bool) (sz fx fy W H : Int) (hS : ∀ p q, S p q = true → (0 ≤ p ∧ p < W) ∧ 0 ≤ q ∧ q < H) : ∃ k v, outO S sz fx fy k fx fy 0 [(fx * sz, fy * sz)] = some v :=
  outO_ends S sz fx fy W H hS 1023 _ fx fy 0 _ (by omega) (by simp) (Nat.le_refl _)
end Go.Proofs.YtnbdnnbeiohmgaaDoor
