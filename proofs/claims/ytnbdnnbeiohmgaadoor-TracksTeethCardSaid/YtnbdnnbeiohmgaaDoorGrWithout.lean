/- grid.Without; grid.Sea. -/
import Derived.Test.YtnbdnnbeiohmgaaDoorGrBoth
import Derived.Deep.RegionHeld3
namespace Go.Proofs.YtnbdnnbeiohmgaaDoor
open Go.RowKit Go.Shelf Go.Lib

theorem meet_mem {W H : Int} {x y : R3} {f : Nat → List S2} {i : Nat} {s : S2} (h : s ∈ meet W H x y f i) : s ∈ f i ∨ ((i : Int) < H ∧ 0 ≤ s.1 ∧ s.1 < s.2 ∧ s.2 ≤ W) := by
  unfold meet at h
  split at h
  · exact addF_mem h
  · exact .inl h
theorem bothF_mem {W H : Int} : ∀ (n : Nat) (a b : List R3) (f : Nat → List S2) (i : Nat) (s : S2), s ∈ bothF W H n a b f i → s ∈ f i ∨ ((i : Int) < H ∧ 0 ≤ s.1 ∧ s.1 < s.2 ∧ s.2 ≤ W) := by
  intro n
  induction n with
  | zero => intro a b f i s h; exact .inl h
  | succ n ih =>
    intro a b f i s h
    match a, b with
    | [], b => rw [bothF_nilA] at h; exact .inl h
    | x :: a, [] => rw [bothF_nilB] at h; exact .inl h
    | x :: a, y :: b =>
      rw [bothF] at h
      split at h
      · rcases ih _ _ _ _ _ h with h | h
        · exact meet_mem h
        · exact .inr h
      · rcases ih _ _ _ _ _ h with h | h
        · exact meet_mem h
        · exact .inr h
theorem bothF_len {W H : Int} : ∀ (n : Nat) (a b : List R3) (f : Nat → List S2) (i : Nat), (bothF W H n a b f i).length ≤ (f i).length + n := by
  intro n
  induction n with
  | zero => intro a b f i; exact Nat.le_refl _
  | succ n ih =>
    intro a b f i
    match a, b with
    | [], b => rw [bothF_nilA]; omega
    | x :: a, [] => rw [bothF_nilB]; omega
    | x :: a, y :: b =>
      have hm := meet_len W H x y f i
      rw [bothF]
      split
      · have := ih a (y :: b) (meet W H x y f) i; omega
      · have := ih (x :: a) b (meet W H x y f) i; omega

end Go.Proofs.YtnbdnnbeiohmgaaDoor
