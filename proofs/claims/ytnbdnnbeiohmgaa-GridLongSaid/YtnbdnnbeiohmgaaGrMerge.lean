/- Spans in order, merged: plain facts, no program in sight. -/
import Derived.WalkKit
namespace Go.Proofs.Ytnbdnnbeiohmgaa

abbrev S2 := Int × Int
def joinTo (out : List S2) (x : S2) : List S2 :=
  match out.getLast? with
  | some a => if x.1 ≤ a.2 then out.dropLast ++ [(a.1, max a.2 x.2)] else out ++ [x]
  | none => [x]
def mergeL (l : List S2) : List S2 := l.foldl joinTo []
theorem mergeL_snoc (l : List S2) (x : S2) : mergeL (l ++ [x]) = joinTo (mergeL l) x := by simp [mergeL]
theorem joinTo_nil (x : S2) : joinTo [] x = [x] := rfl
theorem joinTo_in {o : List S2} {a x : S2} (h : x.1 ≤ a.2) : joinTo (o ++ [a]) x = o ++ [(a.1, max a.2 x.2)] := by simp [joinTo, h]
theorem joinTo_out {o : List S2} {a x : S2} (h : a.2 < x.1) : joinTo (o ++ [a]) x = o ++ [a] ++ [x] := by
  have : ¬ x.1 ≤ a.2 := by omega
  simp [joinTo, this]
theorem joinTo_length (o : List S2) (x : S2) : (joinTo o x).length ≤ o.length + 1 := by
  rcases List.eq_nil_or_concat o with rfl | ⟨o, a, rfl⟩
  · simp [joinTo_nil]
  · rw [List.concat_eq_append]
    by_cases h : x.1 ≤ a.2
    · rw [joinTo_in h]; simp
    · rw [joinTo_out (by omega)]; simp
theorem mergeL_length (l : List S2) : (mergeL l).length ≤ l.length := by
  have h : ∀ (l : List S2) (o : List S2), (l.foldl joinTo o).length ≤ o.length + l.length := by
    intro l
    induction l with
    | nil => intro o; simp
    | cons x l ih =>
      intro o
      have h1 := ih (joinTo o x)
      have h2 := joinTo_length o x
      simp only [List.foldl_cons, List.length_cons]
      omega
  simpa [mergeL] using h l []

def inS (x : Int) (l : List S2) : Prop := ∃ s, s ∈ l ∧ s.1 ≤ x ∧ x < s.2
theorem inS_append {x : Int} {l m : List S2} : inS x (l ++ m) ↔ inS x l ∨ inS x m := by
  simp only [inS, List.mem_append]
  constructor
  · rintro ⟨s, h | h, r⟩
    · exact .inl ⟨s, h, r⟩
    · exact .inr ⟨s, h, r⟩
  · rintro (⟨s, h, r⟩ | ⟨s, h, r⟩)
    · exact ⟨s, .inl h, r⟩
    · exact ⟨s, .inr h, r⟩
theorem inS_one {x : Int} {s : S2} : inS x [s] ↔ s.1 ≤ x ∧ x < s.2 := by simp [inS]

/-- apart, in order, none empty -/
def Sep (m : List S2) : Prop := m.Pairwise (fun a b => a.2 < b.1) ∧ ∀ s, s ∈ m → s.1 < s.2

theorem joinTo_spec {o : List S2} {x : S2} (ho : Sep o) (hx : x.1 < x.2) (hle : ∀ s, s ∈ o → s.1 ≤ x.1) :
    Sep (joinTo o x) ∧ (∀ z, inS z (joinTo o x) ↔ inS z o ∨ (x.1 ≤ z ∧ z < x.2)) ∧
    (∀ s, s ∈ joinTo o x → (s.1 = x.1 ∨ ∃ a, a ∈ o ∧ a.1 = s.1) ∧ (s.2 = x.2 ∨ ∃ a, a ∈ o ∧ a.2 = s.2)) := by
  rcases List.eq_nil_or_concat o with rfl | ⟨o, a, rfl⟩
  · rw [joinTo_nil]
    refine ⟨⟨List.pairwise_singleton _ _, by simpa using hx⟩, fun z => ?_, fun s hs => ?_⟩
    · rw [inS_one]
      simp [inS]
    · simp at hs
      subst hs
      exact ⟨.inl rfl, .inl rfl⟩
  · rw [List.concat_eq_append] at ho hle ⊢
    have ha : a.1 < a.2 := ho.2 a (by simp)
    have hax : a.1 ≤ x.1 := hle a (by simp)
    obtain ⟨hp, hq⟩ := ho
    have hp' := List.pairwise_append.1 hp
    have ho1 : ∀ s, s ∈ o → s.2 < a.1 := fun s hs => hp'.2.2 s hs a (by simp)
    by_cases h : x.1 ≤ a.2
    · rw [joinTo_in h]
      refine ⟨⟨List.pairwise_append.2 ⟨hp'.1, List.pairwise_singleton _ _, ?_⟩, ?_⟩, fun z => ?_, fun s hs => ?_⟩
      · intro s hs b hb
        simp at hb
        subst hb
        exact ho1 s hs
      · intro s hs
        rcases List.mem_append.1 hs with hs | hs
        · exact hq s (by simp [hs])
        · simp at hs; subst hs; simp only; omega
      · rw [inS_append, inS_one, inS_append, inS_one]
        simp only
        constructor
        · rintro (h1 | ⟨h1, h2⟩)
          · exact .inl (.inl h1)
          · by_cases hz : z < a.2
            · exact .inl (.inr ⟨h1, hz⟩)
            · exact .inr ⟨by omega, by omega⟩
        · rintro ((h1 | ⟨h1, h2⟩) | ⟨h1, h2⟩)
          · exact .inl h1
          · exact .inr ⟨h1, by omega⟩
          · exact .inr ⟨by omega, by omega⟩
      · rcases List.mem_append.1 hs with hs | hs
        · exact ⟨.inr ⟨s, by simp [hs], rfl⟩, .inr ⟨s, by simp [hs], rfl⟩⟩
        · simp at hs
          subst hs
          refine ⟨.inr ⟨a, by simp, rfl⟩, ?_⟩
          by_cases hm : a.2 ≤ x.2
          · exact .inl (by simp only; omega)
          · exact .inr ⟨a, by simp, by simp only; omega⟩
    · rw [joinTo_out (by omega)]
      refine ⟨⟨List.pairwise_append.2 ⟨hp, List.pairwise_singleton _ _, ?_⟩, ?_⟩, fun z => ?_, fun s hs => ?_⟩
      · intro s hs b hb
        simp at hb
        subst hb
        rcases List.mem_append.1 hs with hs | hs
        · have := ho1 s hs; omega
        · simp at hs; subst hs; omega
      · intro s hs
        rcases List.mem_append.1 hs with hs | hs
        · exact hq s hs
        · simp at hs; subst hs; exact hx
      · rw [inS_append, inS_one]
      · rcases List.mem_append.1 hs with hs | hs
        · exact ⟨.inr ⟨s, hs, rfl⟩, .inr ⟨s, hs, rfl⟩⟩
        · simp at hs
          subst hs
          exact ⟨.inl rfl, .inl rfl⟩

theorem mergeL_spec : ∀ {l : List S2}, l.Pairwise (fun a b => a.1 ≤ b.1) → (∀ s, s ∈ l → s.1 < s.2) →
    Sep (mergeL l) ∧ (∀ z, inS z (mergeL l) ↔ inS z l) ∧ (∀ s, s ∈ mergeL l → (∃ a, a ∈ l ∧ a.1 = s.1) ∧ ∃ a, a ∈ l ∧ a.2 = s.2) := by
  intro l
  induction h : l.length generalizing l with
  | zero =>
    have : l = [] := List.eq_nil_of_length_eq_zero h
    subst this
    intro _ _
    exact ⟨⟨List.Pairwise.nil, fun s hs => by simp [mergeL] at hs⟩, fun z => Iff.rfl, fun s hs => by simp [mergeL] at hs⟩
  | succ n ih =>
    intro hs hn
    rcases List.eq_nil_or_concat l with rfl | ⟨o, x, rfl⟩
    · simp at h
    · rw [List.concat_eq_append] at h hs hn ⊢
      have hs' := List.pairwise_append.1 hs
      obtain ⟨i1, i2, i3⟩ := ih (l := o) (by simpa using h) hs'.1 (fun s hm => hn s (by simp [hm]))
      obtain ⟨j1, j2, j3⟩ := joinTo_spec (o := mergeL o) (x := x) i1 (hn x (by simp)) (fun s hm => by
        obtain ⟨⟨a, ha, e⟩, -⟩ := i3 s hm
        rw [← e]
        exact hs'.2.2 a ha x (by simp))
      rw [mergeL_snoc]
      refine ⟨j1, fun z => ?_, fun s hm => ?_⟩
      · rw [j2, i2, inS_append, inS_one]
      · obtain ⟨k1, k2⟩ := j3 s hm
        constructor
        · rcases k1 with e | ⟨a, ha, e⟩
          · exact ⟨x, by simp, e.symm⟩
          · obtain ⟨⟨a', ha', e'⟩, -⟩ := i3 a ha
            exact ⟨a', by simp [ha'], e'.trans e⟩
        · rcases k2 with e | ⟨a, ha, e⟩
          · exact ⟨x, by simp, e.symm⟩
          · obtain ⟨-, a', ha', e'⟩ := i3 a ha
            exact ⟨a', by simp [ha'], e'.trans e⟩

/-- spans that lie apart within so many cells are no more than those -/
theorem Sep_length : ∀ {m : List S2} {lo hi : Int}, Sep m → (∀ s, s ∈ m → lo ≤ s.1 ∧ s.2 ≤ hi) → lo ≤ hi → (m.length : Int) ≤ hi - lo
  | [], lo, hi, _, _, h => by simp; omega
  | s :: m, lo, hi, hs, hb, h => by
    obtain ⟨h1, h2⟩ := hb s (by simp)
    have h3 := hs.2 s (by simp)
    have hp := List.pairwise_cons.1 hs.1
    have := Sep_length (m := m) (lo := s.2) (hi := hi) ⟨hp.2, fun a ha => hs.2 a (by simp [ha])⟩ (fun a ha => ⟨by have := hp.1 a ha; omega, (hb a (by simp [ha])).2⟩) h2
    simp only [List.length_cons]
    omega
end Go.Proofs.Ytnbdnnbeiohmgaa
