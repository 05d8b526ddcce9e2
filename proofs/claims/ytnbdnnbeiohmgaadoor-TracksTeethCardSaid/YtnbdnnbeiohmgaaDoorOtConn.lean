/- a region that hangs together has one part. -/
import Derived.Test.YtnbdnnbeiohmgaaDoorPtPlain
namespace Go.Proofs.YtnbdnnbeiohmgaaDoor

def Cov (k : Nat) (S : Int → Int → Bool) : Prop := ∃ l : List (Int × Int), l.length ≤ k ∧ ∀ p q, S p q = true → (p, q) ∈ l
theorem Cov.mono {k : Nat} {S S' : Int → Int → Bool} (h : Cov k S) (hs : ∀ p q, S' p q = true → S p q = true) : Cov k S' := by
  obtain ⟨l, h1, h2⟩ := h
  exact ⟨l, h1, fun p q e => h2 p q (hs p q e)⟩
theorem Cov.rem {k : Nat} {S : Int → Int → Bool} (h : Cov (k + 1) S) {x y : Int} (hc : S x y = true) : Cov k (remS S x y) := by
  obtain ⟨l, h1, h2⟩ := h
  refine ⟨l.erase (x, y), ?_, fun p q e => ?_⟩
  · have := List.length_erase_of_mem (h2 x y hc)
    omega
  · unfold remS at e
    split at e
    · cases e
    · rename_i hne
      exact (List.mem_erase_of_ne (fun e => hne (by cases e; exact ⟨rfl, rfl⟩))).2 (h2 p q e)
/-- a set that has lost whatever hangs together with what it lost -/
def Shut (S S' : Int → Int → Bool) : Prop := ∀ p q, S p q = true → S' p q = false → ∀ e, e ∈ sidesL (p, q) → S' e.1 e.2 = false
theorem remS_sub {S : Int → Int → Bool} {x y p q : Int} (h : remS S x y p q = true) : S p q = true := by
  unfold remS at h
  split at h
  · cases h
  · exact h
theorem off_sub {S S' : Int → Int → Bool} (h : ∀ p q, S' p q = true → S p q = true) {p q : Int} (e : S p q = false) : S' p q = false := by
  cases h1 : S' p q
  · rfl
  · rw [h p q h1] at e
    cases e
theorem floodC_shut : ∀ (k : Nat) (c : Int × Int) (st : (Int → Int → Bool) × List (Int × Int)), Cov k st.1 → (floodC k c st).1 c.1 c.2 = false ∧ Shut st.1 (floodC k c st).1
  | 0, c, st, h => by
    obtain ⟨l, h1, h2⟩ := h
    obtain rfl : l = [] := List.eq_nil_of_length_eq_zero (by omega)
    have key : ∀ p q, st.1 p q = false := fun p q => by
      cases e : st.1 p q
      · rfl
      · simpa using h2 p q e
    exact ⟨key _ _, fun p q e => by rw [key] at e; cases e⟩
  | k + 1, c, st, h => by
    rw [floodC]
    split
    · rename_i hc
      have hk := h.rem hc
      have hfold : ∀ (l : List (Int × Int)) (s : (Int → Int → Bool) × List (Int × Int)), Cov k s.1 → (∀ p q, (l.foldl (fun s d => floodC k d s) s).1 p q = true → s.1 p q = true) ∧ (∀ e, e ∈ l → (l.foldl (fun s d => floodC k d s) s).1 e.1 e.2 = false) ∧ Shut s.1 (l.foldl (fun s d => floodC k d s) s).1 := by
        intro l
        induction l with
        | nil =>
          intro s _
          refine ⟨fun _ _ h => h, ?_, ?_⟩
          · intro e h
            cases h
          · intro p q h1 h2
            rw [List.foldl_nil, h1] at h2
            cases h2
        | cons d l ih =>
          intro s hs
          obtain ⟨i1, i2⟩ := floodC_shut k d s hs
          have hsub := floodC_sub k d s
          obtain ⟨j1, j2, j3⟩ := ih (floodC k d s) (hs.mono hsub)
          rw [List.foldl_cons]
          refine ⟨fun p q e => hsub p q (j1 p q e), fun e he => ?_, fun p q h1 h2 e he => ?_⟩
          · rcases List.mem_cons.1 he with rfl | he
            · exact off_sub j1 i1
            · exact j2 e he
          · cases h3 : (floodC k d s).1 p q
            · exact off_sub j1 (i2 p q h1 h3 e he)
            · exact j3 p q h3 h2 e he
      obtain ⟨g1, g2, g3⟩ := hfold (sidesL c) (remS st.1 c.1 c.2, st.2 ++ [c]) hk
      refine ⟨off_sub g1 (by simp [remS]), fun p q h1 h2 e he => ?_⟩
      by_cases hpc : p = c.1 ∧ q = c.2
      · rw [hpc.1, hpc.2] at he
        exact g2 e he
      · exact g3 p q (by show (if p = c.1 ∧ q = c.2 then false else st.1 p q) = true; rw [if_neg hpc]; exact h1) h2 e he
    · rename_i hc
      exact ⟨by simpa using hc, fun p q h1 h2 => by rw [h1] at h2; cases h2⟩
/-- from a cell on all hangs together -/
def Conn (S : Int → Int → Bool) (c : Int × Int) : Prop := ∀ S' : Int → Int → Bool, S' c.1 c.2 = false → Shut S S' → ∀ p q, S p q = true → S' p q = false
theorem partsL_one {c : Int × Int} {cs : List (Int × Int)} (h : Conn (inC (c :: cs)) c) : (partsL (c :: cs)).length = 1 := by
  have hc : inC (c :: cs) c.1 c.2 = true := by simp [inC]
  obtain ⟨i1, i2⟩ := floodC_shut (c :: cs).length c (inC (c :: cs), []) ⟨c :: cs, Nat.le_refl _, fun p q e => by simpa [inC] using e⟩
  have hoff := h _ i1 i2
  unfold partsL partsC
  rw [List.foldl_cons]
  have h1 : partS (c :: cs).length (inC (c :: cs), []) c = ((floodC (c :: cs).length c (inC (c :: cs), [])).1, [(floodC (c :: cs).length c (inC (c :: cs), [])).2]) := by
    unfold partS
    rw [if_pos hc]
    rfl
  rw [h1]
  have key : ∀ (l : List (Int × Int)) (st : (Int → Int → Bool) × List (List (Int × Int))), (∀ d, d ∈ l → st.1 d.1 d.2 = false) → l.foldl (partS (c :: cs).length) st = st := by
    intro l
    induction l with
    | nil => intro st _; rfl
    | cons d l ih =>
      intro st hd
      rw [List.foldl_cons]
      have : partS (c :: cs).length st d = st := by
        unfold partS
        rw [if_neg (by rw [hd d (by simp)]; simp)]
      rw [this]
      exact ih st fun e he => hd e (by simp [he])
  rw [key cs _ fun d hd => hoff d.1 d.2 (by simp [inC, hd])]
  rfl
end Go.Proofs.YtnbdnnbeiohmgaaDoor
