/- grid.Parts: plain facts: the flood as a list of cells. -/
import Derived.Test.YtnbdnnbeiohmgaaPtFill
import Derived.Test.YtnbdnnbeiohmgaaPtReg
import Derived.Test.YtnbdnnbeiohmgaaTrRegion
namespace Go.Proofs.Ytnbdnnbeiohmgaa
open Go.RowKit Go.Maps

/-- the flood from a cell: what is left, and what was met, in its order -/
def floodC : Nat → Int × Int → (Int → Int → Bool) × List (Int × Int) → (Int → Int → Bool) × List (Int × Int)
  | 0, _, st => st
  | k + 1, c, st => if st.1 c.1 c.2 = true then (sidesL c).foldl (fun s d => floodC k d s) (remS st.1 c.1 c.2, st.2 ++ [c]) else st
theorem cellF_snoc (W H : Int) (l : List (Int × Int)) (c : Int × Int) : cellF W H (l ++ [c]) = addF W H c.2 c.1 (c.1 + 1) (cellF W H l) := by simp [cellF]
theorem floodF_eq (W H : Int) : ∀ (k : Nat) (c : Int × Int) (S : Int → Int → Bool) (L : List (Int × Int)), floodF W H k c (S, cellF W H L) = ((floodC k c (S, L)).1, cellF W H (floodC k c (S, L)).2)
  | 0, c, S, L => rfl
  | k + 1, c, S, L => by
    rw [floodF, floodC]
    dsimp only
    split
    · have key : ∀ (l : List (Int × Int)) (S : Int → Int → Bool) (L : List (Int × Int)), l.foldl (fun s d => floodF W H k d s) (S, cellF W H L) = ((l.foldl (fun s d => floodC k d s) (S, L)).1, cellF W H (l.foldl (fun s d => floodC k d s) (S, L)).2) := by
        intro l
        induction l with
        | nil => intro S L; rfl
        | cons d l ih =>
          intro S L
          rw [List.foldl_cons, List.foldl_cons, floodF_eq W H k d S L]
          exact ih _ _
      rw [← cellF_snoc]
      exact key _ _ _
    · rfl
theorem floodC_foldl {k : Nat} {P : (Int → Int → Bool) × List (Int × Int) → Prop} (h : ∀ c st, P st → P (floodC k c st)) : ∀ (l : List (Int × Int)) st, P st → P (l.foldl (fun s d => floodC k d s) st)
  | [], _, hst => hst
  | d :: l, st, hst => floodC_foldl h l _ (h d st hst)
/-- what holds of a state and abides a step holds behind the flood -/
theorem floodC_ind {P : (Int → Int → Bool) × List (Int × Int) → Prop} (h : ∀ c st, st.1 c.1 c.2 = true → P st → P (remS st.1 c.1 c.2, st.2 ++ [c])) : ∀ (k : Nat) c st, P st → P (floodC k c st)
  | 0, _, _, hst => hst
  | k + 1, c, st, hst => by
    rw [floodC]
    split
    · rename_i hc
      exact floodC_foldl (fun c st hs => floodC_ind h k c st hs) _ _ (h c st hc hst)
    · exact hst
theorem floodC_sub (k : Nat) (c : Int × Int) (st : (Int → Int → Bool) × List (Int × Int)) : ∀ p q, (floodC k c st).1 p q = true → st.1 p q = true :=
  floodC_ind (P := fun s => ∀ p q, s.1 p q = true → st.1 p q = true) (fun c s _ ih p q h => by
    dsimp only [remS] at h
    split at h
    · cases h
    · exact ih p q h) k c st (fun _ _ h => h)
theorem floodC_in (k : Nat) (c : Int × Int) (S : Int → Int → Bool) : ∀ d, d ∈ (floodC k c (S, [])).2 → S d.1 d.2 = true :=
  (floodC_ind (P := fun s => (∀ p q, s.1 p q = true → S p q = true) ∧ ∀ d, d ∈ s.2 → S d.1 d.2 = true) (fun c s hc ih => ⟨fun p q h => by
    dsimp only [remS] at h
    split at h
    · cases h
    · exact ih.1 p q h, fun d hd => by
    rcases List.mem_append.1 hd with hd | hd
    · exact ih.2 d hd
    · rw [List.mem_singleton.1 hd]
      exact ih.1 _ _ hc⟩) k c (S, []) ⟨fun _ _ h => h, fun d hd => by cases hd⟩).2
/-- the parts, one behind the other -/
def partS (k : Nat) (st : (Int → Int → Bool) × List (List (Int × Int))) (c : Int × Int) : (Int → Int → Bool) × List (List (Int × Int)) := if st.1 c.1 c.2 = true then ((floodC k c (st.1, [])).1, st.2 ++ [(floodC k c (st.1, [])).2]) else st
def partsC (k : Nat) (cs : List (Int × Int)) (S : Int → Int → Bool) : (Int → Int → Bool) × List (List (Int × Int)) := cs.foldl (partS k) (S, [])
theorem partsC_snoc (k : Nat) (cs : List (Int × Int)) (S : Int → Int → Bool) (c : Int × Int) : partsC k (cs ++ [c]) S = partS k (partsC k cs S) c := by simp [partsC]
theorem partsC_sub (k : Nat) (cs : List (Int × Int)) (S : Int → Int → Bool) : ∀ p q, (partsC k cs S).1 p q = true → S p q = true := by
  have key : ∀ (l : List (Int × Int)) (st : (Int → Int → Bool) × List (List (Int × Int))), (∀ p q, st.1 p q = true → S p q = true) → ∀ p q, (l.foldl (partS k) st).1 p q = true → S p q = true := by
    intro l
    induction l with
    | nil => intro st h; exact h
    | cons d l ih =>
      intro st h
      refine ih _ fun p q hpq => ?_
      unfold partS at hpq
      split at hpq
      · exact h p q (floodC_sub k d _ p q hpq)
      · exact h p q hpq
  exact key cs (S, []) fun _ _ h => h
theorem partsC_len (k : Nat) (cs : List (Int × Int)) (S : Int → Int → Bool) : (partsC k cs S).2.length ≤ cs.length := by
  have key : ∀ (l : List (Int × Int)) (st : (Int → Int → Bool) × List (List (Int × Int))), (l.foldl (partS k) st).2.length ≤ st.2.length + l.length := by
    intro l
    induction l with
    | nil => intro st; simp
    | cons d l ih =>
      intro st
      have h1 := ih (partS k st d)
      have h2 : (partS k st d).2.length ≤ st.2.length + 1 := by unfold partS; split <;> simp
      simp only [List.foldl_cons, List.length_cons]
      omega
  have := key cs (S, [])
  simpa [partsC] using this
theorem joinX_more (o : List S2) (x : Int) : (joinX o x).length ≤ o.length + 1 := by
  rcases List.eq_nil_or_concat o with rfl | ⟨o', a, rfl⟩
  · simp [joinX]
  · rw [List.concat_eq_append]
    by_cases h : a.2 = x
    · rw [joinX_in h]
      simp
    · rw [joinX_out h]
      simp
theorem runRow_more (f : Int → Bool) : ∀ n, (runRow f n).length ≤ n
  | 0 => by simp [runRow]
  | n + 1 => by
    have h1 := runRow_more f n
    rw [runRow]
    split
    · have := joinX_more (runRow f n) n
      omega
    · omega
theorem refR_more (P : Int → Int → Bool) (W : Nat) : ∀ H, (refR P W H).length ≤ W * H
  | 0 => by simp [refR, rowsR]
  | H + 1 => by
    have h1 := refR_more P W H
    have h2 := runRow_more (fun x => P x H) W
    unfold refR at h1 ⊢
    rw [rowsR_succ, List.length_append, Nat.mul_succ]
    simp only [rowR, List.length_map]
    omega
/-- the set of a list of cells -/
def inC (l : List (Int × Int)) : Int → Int → Bool := fun p q => decide ((p, q) ∈ l)
theorem inC_snoc (l : List (Int × Int)) (x y : Int) : (fun p q => if p = x ∧ q = y then true else inC l p q) = inC (l ++ [(x, y)]) := by
  funext p q
  unfold inC
  by_cases h : p = x ∧ q = y
  · simp [h]
  · rw [if_neg h]
    simp [h]
/-- the parts of a list of cells -/
def partsL (cs : List (Int × Int)) : List (List (Int × Int)) := (partsC cs.length cs (inC cs)).2
end Go.Proofs.Ytnbdnnbeiohmgaa
