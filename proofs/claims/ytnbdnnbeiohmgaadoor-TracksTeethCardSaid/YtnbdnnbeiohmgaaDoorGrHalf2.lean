/- grid.Half: the cells of a row from the first to the last that is to the left. -/
import Derived.Test.YtnbdnnbeiohmgaaDoorGrHalf1
namespace Go.Proofs.YtnbdnnbeiohmgaaDoor
open Go.RowKit Go.Shelf Go.Lib

def upTo (L : Int → Bool) (hi : Int) : Nat → Int → Int
  | 0, x => x
  | n + 1, x => if decide (x ≤ hi) && !L x then upTo L hi n (x + 1) else x
def dnTo (L : Int → Bool) (lo : Int) : Nat → Int → Int
  | 0, x => x
  | n + 1, x => if decide (lo ≤ x) && !L x then dnTo L lo n (x - 1) else x
theorem upTo_stop {L : Int → Bool} {hi x : Int} {n : Nat} (h : (decide (x ≤ hi) && !L x) = false) : upTo L hi n x = x := by
  cases n with
  | zero => rfl
  | succ n => rw [upTo, h]; rfl
theorem upTo_go {L : Int → Bool} {hi x : Int} {n : Nat} (h : (decide (x ≤ hi) && !L x) = true) : upTo L hi (n + 1) x = upTo L hi n (x + 1) := by rw [upTo, h]; rfl
theorem dnTo_stop {L : Int → Bool} {lo x : Int} {n : Nat} (h : (decide (lo ≤ x) && !L x) = false) : dnTo L lo n x = x := by
  cases n with
  | zero => rfl
  | succ n => rw [dnTo, h]; rfl
theorem dnTo_go {L : Int → Bool} {lo x : Int} {n : Nat} (h : (decide (lo ≤ x) && !L x) = true) : dnTo L lo (n + 1) x = dnTo L lo n (x - 1) := by rw [dnTo, h]; rfl
def halfRow (W : Int) (L : Int → Bool) : Int × Int := (upTo L (W - 1) W.toNat 0, dnTo L (upTo L (W - 1) W.toNat 0) W.toNat (W - 1))
theorem upTo_spec {L : Int → Bool} {hi : Int} : ∀ (n : Nat) (x : Int), x ≤ upTo L hi n x ∧ upTo L hi n x ≤ max x (hi + 1) ∧ ∀ c, x ≤ c → c < upTo L hi n x → L c = false := by
  intro n
  induction n with
  | zero => intro x; exact ⟨Int.le_refl _, by simp only [upTo]; omega, fun c h1 h2 => by simp only [upTo] at h2; omega⟩
  | succ n ih =>
    intro x
    cases h : (decide (x ≤ hi) && !L x) with
    | false => rw [upTo_stop h]; exact ⟨Int.le_refl _, by omega, fun c h1 h2 => by omega⟩
    | true =>
      rw [upTo_go h]
      obtain ⟨i1, i2, i3⟩ := ih (x + 1)
      simp only [Bool.and_eq_true, decide_eq_true_eq, Bool.not_eq_true'] at h
      refine ⟨by omega, by omega, fun c h1 h2 => ?_⟩
      by_cases e : c = x
      · subst e; exact h.2
      · exact i3 c (by omega) h2
theorem dnTo_spec {L : Int → Bool} {lo : Int} : ∀ (n : Nat) (x : Int), dnTo L lo n x ≤ x ∧ min x (lo - 1) ≤ dnTo L lo n x ∧ ∀ c, dnTo L lo n x < c → c ≤ x → L c = false := by
  intro n
  induction n with
  | zero => intro x; exact ⟨Int.le_refl _, by simp only [dnTo]; omega, fun c h1 h2 => by simp only [dnTo] at h1; omega⟩
  | succ n ih =>
    intro x
    cases h : (decide (lo ≤ x) && !L x) with
    | false => rw [dnTo_stop h]; exact ⟨Int.le_refl _, by omega, fun c h1 h2 => by omega⟩
    | true =>
      rw [dnTo_go h]
      obtain ⟨i1, i2, i3⟩ := ih (x - 1)
      simp only [Bool.and_eq_true, decide_eq_true_eq, Bool.not_eq_true'] at h
      refine ⟨by omega, by omega, fun c h1 h2 => ?_⟩
      by_cases e : c = x
      · subst e; exact h.2
      · exact i3 c h1 (by omega)

end Go.Proofs.YtnbdnnbeiohmgaaDoor
