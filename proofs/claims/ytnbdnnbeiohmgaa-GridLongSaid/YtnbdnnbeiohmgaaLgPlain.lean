/- GridLong: the plain law: what Either, Both and Without lay in a table has just the cells that the document asks, and lists of runs with the same cells are the same. -/
import Derived.Test.YtnbdnnbeiohmgaaLgComb
import Derived.Test.YtnbdnnbeiohmgaaGrReachP
import Derived.Test.YtnbdnnbeiohmgaaGrWithout
namespace Go.Proofs.Ytnbdnnbeiohmgaa
open Go.RowKit

/-- runs in order, apart, each with a cell -/
def Ord (l : List R3) : Prop := l.Pairwise (fun r s => r.1 < s.1 ∨ (r.1 = s.1 ∧ r.2.2 < s.2.1)) ∧ ∀ r, r ∈ l → r.2.1 < r.2.2
theorem Ord.tail {r : R3} {l : List R3} (h : Ord (r :: l)) : Ord l := ⟨(List.pairwise_cons.1 h.1).2, fun s hs => h.2 s (by simp [hs])⟩
theorem Ord.head {r : R3} {l : List R3} (h : Ord (r :: l)) : ∀ s, s ∈ l → r.1 < s.1 ∨ (r.1 = s.1 ∧ r.2.2 < s.2.1) := (List.pairwise_cons.1 h.1).1
theorem ord_of_right {W H : Int} : ∀ {l : List R3} {p : R3}, rightL W H p l = true → (∀ r, r ∈ l → r.2.1 < r.2.2) → Ord l ∧ ∀ r, r ∈ l → p.1 < r.1 ∨ (p.1 = r.1 ∧ p.2.2 < r.2.1)
  | [], p, _, _ => ⟨⟨List.Pairwise.nil, fun r hr => by simp at hr⟩, fun r hr => by simp at hr⟩
  | x :: l, p, h, ht => by
    simp only [rightL, Bool.and_eq_true] at h
    obtain ⟨h1, h2⟩ := ord_of_right h.2 (fun r hr => ht r (by simp [hr]))
    have h3 := h.1
    simp only [okR, inB, Bool.and_eq_true, decide_eq_true_eq, Bool.not_eq_true', Bool.and_eq_false_iff, beq_eq_false_iff_ne, decide_eq_false_iff_not] at h3
    have hx := ht x (by simp)
    refine ⟨⟨List.pairwise_cons.2 ⟨h2, h1.1⟩, ht⟩, fun r hr => ?_⟩
    rcases List.mem_cons.1 hr with e | e
    · subst e
      omega
    · have := h2 r e
      omega
theorem Proper.ord {W H : Int} {l : List R3} (h : Proper W H l) : Ord l := (ord_of_right h.1 h.2).1
theorem Proper.rows {W H : Int} {l : List R3} (h : Proper W H l) : ∀ r, r ∈ l → 0 ≤ r.1 ∧ r.1 < H ∧ 0 ≤ r.2.1 ∧ r.2.2 ≤ W := fun r hr => by
  have := right_rows h.1 r hr
  omega

theorem hasL_cons (r : R3) (l : List R3) (x y : Int) : hasL (r :: l) x y = (hasR x y r || hasL l x y) := rfl
theorem hasR_iff {x y : Int} {r : R3} : hasR x y r = true ↔ r.1 = y ∧ r.2.1 ≤ x ∧ x < r.2.2 := by
  simp only [hasR, Bool.and_eq_true, beq_iff_eq, decide_eq_true_eq, and_assoc]
theorem hasL_iff {l : List R3} {x y : Int} : hasL l x y = true ↔ ∃ r, r ∈ l ∧ r.1 = y ∧ r.2.1 ≤ x ∧ x < r.2.2 := by
  unfold hasL
  rw [List.any_eq_true]
  constructor
  · rintro ⟨r, hr, h⟩; exact ⟨r, hr, hasR_iff.1 h⟩
  · rintro ⟨r, hr, h⟩; exact ⟨r, hr, hasR_iff.2 h⟩

/-- what add lays, cell by cell -/
theorem addF_in {W H y a t x : Int} {f : Nat → List S2} {i : Nat} (hy : 0 ≤ y) :
    inS x (addF W H y a t f i) ↔ inS x (f i) ∨ ((i : Int) = y ∧ y < H ∧ 0 ≤ x ∧ x < W ∧ a ≤ x ∧ x < t) := by
  by_cases k : addOK W H y a t = true
  · rw [addF_yes k]
    simp only [addOK, inB, Bool.and_eq_true, decide_eq_true_eq] at k
    by_cases e : i = y.toNat
    · subst e
      rw [upd_same, inS_append, inS_one]
      simp only
      constructor
      · rintro (h | h)
        · exact .inl h
        · right; omega
      · rintro (h | h)
        · exact .inl h
        · right; omega
    · rw [upd_other _ _ e]
      constructor
      · exact .inl
      · rintro (h | h)
        · exact h
        · omega
  · rw [addF_no (by simpa using k)]
    constructor
    · exact .inl
    · rintro (h | h)
      · exact h
      · exfalso
        apply k
        simp only [addOK, inB, Bool.and_eq_true, decide_eq_true_eq]
        omega

/-- what Either lays -/
def eithF (W H : Int) (l : List R3) : Nat → List S2 := l.foldl (fun f r => addF W H r.1 r.2.1 r.2.2 f) fun _ => []
theorem eithF_take {W H : Int} {l : List R3} {k : Nat} {r : R3} (h : l[k]? = some r) : eithF W H (l.take (k + 1)) = addF W H r.1 r.2.1 r.2.2 (eithF W H (l.take k)) := by
  rw [List.take_add_one, h]
  simp [eithF]
theorem eithF_len (W H : Int) (l : List R3) (i : Nat) : (eithF W H l i).length ≤ l.length := by
  have key : ∀ (l : List R3) (f : Nat → List S2), (l.foldl (fun f r => addF W H r.1 r.2.1 r.2.2 f) f i).length ≤ (f i).length + l.length := by
    intro l
    induction l with
    | nil => intro f; simp
    | cons r l ih =>
      intro f
      have h1 := ih (addF W H r.1 r.2.1 r.2.2 f)
      have h2 := addF_len W H r.1 r.2.1 r.2.2 f i
      simp only [List.foldl_cons, List.length_cons]
      omega
  have := key l (fun _ => [])
  simpa [eithF] using this
theorem eithF_mem {W H : Int} {l : List R3} {i : Nat} {s : S2} (h : s ∈ eithF W H l i) : (i : Int) < H ∧ 0 ≤ s.1 ∧ s.1 < s.2 ∧ s.2 ≤ W := by
  have key : ∀ (l : List R3) (f : Nat → List S2), s ∈ l.foldl (fun f r => addF W H r.1 r.2.1 r.2.2 f) f i → s ∈ f i ∨ ((i : Int) < H ∧ 0 ≤ s.1 ∧ s.1 < s.2 ∧ s.2 ≤ W) := by
    intro l
    induction l with
    | nil => intro f h; exact .inl h
    | cons r l ih =>
      intro f h
      rcases ih _ h with h | h
      · exact addF_mem h
      · exact .inr h
  rcases key l _ h with h | h
  · simp at h
  · exact h
theorem eithF_in {W H : Int} {l : List R3} (hl : ∀ r, r ∈ l → 0 ≤ r.1 ∧ r.1 < H ∧ 0 ≤ r.2.1 ∧ r.2.2 ≤ W) (i : Nat) (x : Int) : inS x (eithF W H l i) ↔ hasL l x i = true := by
  have key : ∀ (l : List R3) (f : Nat → List S2), (∀ r, r ∈ l → 0 ≤ r.1 ∧ r.1 < H ∧ 0 ≤ r.2.1 ∧ r.2.2 ≤ W) → (inS x (l.foldl (fun f r => addF W H r.1 r.2.1 r.2.2 f) f i) ↔ inS x (f i) ∨ hasL l x i = true) := by
    intro l
    induction l with
    | nil => intro f _; simp [hasL]
    | cons r l ih =>
      intro f hr
      have h0 := hr r (by simp)
      rw [List.foldl_cons, ih _ (fun s hs => hr s (by simp [hs])), addF_in h0.1, hasL_cons, Bool.or_eq_true, hasR_iff]
      constructor
      · rintro ((h | h) | h)
        · exact .inl h
        · right; left; omega
        · exact .inr (.inr h)
      · rintro (h | h | h)
        · exact .inl (.inl h)
        · left; right; omega
        · exact .inr h
  have := key l (fun _ => []) hl
  unfold eithF
  rw [this]
  simp [inS]
theorem hasL_append (a b : List R3) (x y : Int) : hasL (a ++ b) x y = (hasL a x y || hasL b x y) := by simp [hasL]

/-- what Both lays -/
theorem bothF_in {W H x : Int} {i : Nat} : ∀ (n : Nat) (a b : List R3) (f : Nat → List S2), n = a.length + b.length → Ord a → Ord b → (∀ r, r ∈ a → 0 ≤ r.1 ∧ r.1 < H ∧ 0 ≤ r.2.1 ∧ r.2.2 ≤ W) → (∀ r, r ∈ b → 0 ≤ r.1) →
    (inS x (bothF W H n a b f i) ↔ inS x (f i) ∨ (hasL a x i = true ∧ hasL b x i = true)) := by
  intro n
  induction n with
  | zero =>
    intro a b f hn _ _ _ _
    have ha : a = [] := List.eq_nil_of_length_eq_zero (by omega)
    subst ha
    simp [bothF, hasL]
  | succ n ih =>
    intro a b f hn ha hb hra hrb
    cases a with
    | nil => simp [bothF_nilA, hasL]
    | cons p al =>
      cases b with
      | nil => simp [bothF_nilB, hasL]
      | cons q bl =>
        simp only [List.length_cons] at hn
        have hp := ha.2 p (by simp)
        have hq := hb.2 q (by simp)
        have hp0 := hra p (by simp)
        -- what meet lays
        have hm : inS x (meet W H p q f i) ↔ inS x (f i) ∨ (hasR x i p = true ∧ hasR x i q = true) := by
          rw [hasR_iff, hasR_iff]
          unfold meet
          by_cases e : p.1 = q.1
          · rw [if_pos e, addF_in hp0.1]
            constructor
            · rintro (h | h)
              · exact .inl h
              · right; omega
            · rintro (h | h)
              · exact .inl h
              · right; omega
          · rw [if_neg e]
            constructor
            · exact .inl
            · rintro (h | h)
              · exact h
              · omega
        rw [bothF]
        by_cases hg : goA p q = true
        · rw [if_pos hg, ih al (q :: bl) _ (by simp only [List.length_cons]; omega) ha.tail hb (fun r hr => hra r (by simp [hr])) hrb, hm, hasL_cons, hasL_cons, Bool.or_eq_true, Bool.or_eq_true]
          have hno : hasR x i p = true → hasL bl x i = true → False := by
            rw [hasR_iff, hasL_iff]
            rintro ⟨h1, h2, h3⟩ ⟨r, hr, h4, h5, h6⟩
            have := hb.head r hr
            simp only [goA, Bool.or_eq_true, Bool.and_eq_true, decide_eq_true_eq, beq_iff_eq] at hg
            omega
          constructor
          · rintro ((h | h) | h)
            · exact .inl h
            · exact .inr ⟨.inl h.1, .inl h.2⟩
            · exact .inr ⟨.inr h.1, h.2⟩
          · rintro (h | ⟨h1 | h1, h2⟩)
            · exact .inl (.inl h)
            · rcases h2 with h2 | h2
              · exact .inl (.inr ⟨h1, h2⟩)
              · exact absurd h2 (fun h => hno h1 h)
            · exact .inr ⟨h1, h2⟩
        · rw [if_neg hg, ih (p :: al) bl _ (by simp only [List.length_cons]; omega) ha hb.tail hra (fun r hr => hrb r (by simp [hr])), hm, hasL_cons, hasL_cons, Bool.or_eq_true, Bool.or_eq_true]
          have hno : hasL al x i = true → hasR x i q = true → False := by
            rw [hasR_iff, hasL_iff]
            rintro ⟨r, hr, h4, h5, h6⟩ ⟨h1, h2, h3⟩
            have := ha.head r hr
            simp only [goA, Bool.or_eq_true, Bool.and_eq_true, decide_eq_true_eq, beq_iff_eq] at hg
            omega
          constructor
          · rintro ((h | h) | h)
            · exact .inl h
            · exact .inr ⟨.inl h.1, .inl h.2⟩
            · exact .inr ⟨h.1, .inr h.2⟩
          · rintro (h | ⟨h1, h2 | h2⟩)
            · exact .inl (.inl h)
            · rcases h1 with h1 | h1
              · exact .inl (.inr ⟨h1, h2⟩)
              · exact absurd h2 (fun h => hno h1 h)
            · exact .inr ⟨h1, h2⟩

/-- the runs between those of a row, cell by cell -/
theorem othIn_spec {W y : Int} : ∀ (l : List R3) (p : Int), Ord l → (∀ r, r ∈ l → y ≤ r.1 ∧ r.2.2 ≤ W ∧ (r.1 = y → p ≤ r.2.1)) → 0 ≤ p → p ≤ W →
    (p ≤ (othIn y p l).2.1 ∧ (othIn y p l).2.1 ≤ W) ∧ (∀ r, r ∈ (othIn y p l).2.2 → r ∈ l ∧ y < r.1) ∧ Ord (othIn y p l).2.2 ∧
    Ord (othIn y p l).1 ∧ (∀ r, r ∈ (othIn y p l).1 → r.1 = y ∧ p ≤ r.2.1 ∧ r.2.2 < (othIn y p l).2.1) ∧
    (∀ x, p ≤ x → x < W → (hasL (othIn y p l).1 x y = true ∨ (othIn y p l).2.1 ≤ x ↔ ¬ hasL l x y = true)) ∧ (∀ x z, y < z → hasL (othIn y p l).2.2 x z = hasL l x z) := by
  intro l
  induction l with
  | nil =>
    intro p _ _ h0 hW
    simp only [othIn]
    exact ⟨⟨by omega, hW⟩, fun r hr => by simp at hr, ⟨List.Pairwise.nil, fun r hr => by simp at hr⟩, ⟨List.Pairwise.nil, fun r hr => by simp at hr⟩, fun r hr => by simp at hr, fun x hx _ => by simp [hasL]; omega, fun x z _ => by first | rfl | trivial⟩
  | cons r l ih =>
    intro p ho hr h0 hW
    by_cases e : r.1 = y
    · have h1 := hr r (by simp)
      have h2 := ho.2 r (by simp)
      have hp := h1.2.2 e
      obtain ⟨i1, i2, i3, i4, i5, i6, i7⟩ := ih r.2.2 ho.tail (fun s hs => ⟨(hr s (by simp [hs])).1, (hr s (by simp [hs])).2.1, fun es => by have := ho.head s hs; omega⟩) (by omega) h1.2.1
      simp only [othIn]
      rw [if_pos e]
      dsimp only
      refine ⟨⟨by omega, i1.2⟩, fun s hs => ⟨by simp [(i2 s hs).1], (i2 s hs).2⟩, i3, ?_, fun s hs => ?_, fun x hx hxW => ?_, fun x z hz => ?_⟩
      · refine ⟨?_, fun s hs => ?_⟩
        · rw [List.pairwise_append]
          refine ⟨by split <;> simp, i4.1, fun s hs t ht => ?_⟩
          have := i5 t ht
          split at hs
          · simp at hs; subst hs; simp only; omega
          · simp at hs
        · rcases List.mem_append.1 hs with hs | hs
          · split at hs
            · simp at hs; subst hs; simp only; omega
            · simp at hs
          · exact i4.2 s hs
      · rcases List.mem_append.1 hs with hs | hs
        · split at hs
          · simp at hs
            subst hs
            exact ⟨rfl, Int.le_refl _, by dsimp only; omega⟩
          · simp at hs
        · have := i5 s hs
          omega
      · rw [hasL_append, hasL_cons, Bool.or_eq_true, Bool.or_eq_true, hasR_iff]
        have hf : hasL (if p < r.2.1 then [(y, p, r.2.1)] else []) x y = true ↔ (p ≤ x ∧ x < r.2.1) := by
          split
          · rw [hasL_iff]; simp
          · simp [hasL]; omega
        rw [hf]
        by_cases hx2 : r.2.2 ≤ x
        · have := i6 x hx2 hxW
          constructor
          · rintro ((h | h) | h)
            · omega
            · rintro (k | k)
              · omega
              · exact this.1 (.inl h) k
            · rintro (k | k)
              · omega
              · exact this.1 (.inr h) k
          · intro k
            rcases this.2 (fun h => k (.inr h)) with h | h
            · exact .inl (.inr h)
            · exact .inr h
        · have hn1 : ¬ hasL l x y = true := by
            rw [hasL_iff]
            rintro ⟨s, hs, h4, h5, h6⟩
            have := ho.head s hs
            omega
          have hn2 : ¬ hasL (othIn y r.2.2 l).1 x y = true := by
            rw [hasL_iff]
            rintro ⟨s, hs, h4, h5, h6⟩
            have := i5 s hs
            omega
          constructor
          · rintro ((h | h) | h)
            · rintro (k | k)
              · omega
              · exact hn1 k
            · exact absurd h hn2
            · omega
          · intro k
            left; left
            refine ⟨hx, ?_⟩
            rcases Int.lt_or_le x r.2.1 with h | h
            · exact h
            · exact absurd (.inl ⟨e, h, by omega⟩) k
      · rw [i7 x z hz, hasL_cons]
        have : hasR x z r = false := by
          cases h : hasR x z r with
          | false => rfl
          | true => rw [hasR_iff] at h; omega
        rw [this, Bool.false_or]
    · have h1 := hr r (by simp)
      simp only [othIn]
      rw [if_neg e]
      dsimp only
      refine ⟨⟨by omega, hW⟩, fun s hs => ⟨hs, ?_⟩, ho, ⟨List.Pairwise.nil, fun r hr => by simp at hr⟩, fun r hr => by simp at hr, fun x hx hxW => ?_, fun x z _ => rfl⟩
      · rcases List.mem_cons.1 hs with k | k
        · subst k; omega
        · have := ho.head s k; omega
      · have hn : ¬ hasL (r :: l) x y = true := by
          rw [hasL_iff]
          rintro ⟨s, hs, h4, h5, h6⟩
          rcases List.mem_cons.1 hs with k | k
          · subst k; omega
          · have := ho.head s k; omega
        constructor
        · intro _; exact hn
        · intro _; right; exact hx

theorem othF_spec {W : Int} (hW : 0 ≤ W) {l : List R3} (ho : Ord l) (hr : ∀ r, r ∈ l → 0 ≤ r.1 ∧ 0 ≤ r.2.1 ∧ r.2.2 ≤ W) : ∀ n : Nat,
    (∀ r, r ∈ (othF W l n).2 → (n : Int) ≤ r.1 ∧ 0 ≤ r.2.1 ∧ r.2.2 ≤ W) ∧ Ord (othF W l n).2 ∧ (∀ (x : Int) (z : Int), (n : Int) ≤ z → hasL (othF W l n).2 x z = hasL l x z) ∧
    Ord (othF W l n).1 ∧ (∀ r, r ∈ (othF W l n).1 → 0 ≤ r.1 ∧ r.1 < n ∧ 0 ≤ r.2.1 ∧ r.2.2 ≤ W) ∧
    (∀ (x : Int) (z : Int), 0 ≤ x → x < W → 0 ≤ z → z < n → (hasL (othF W l n).1 x z = true ↔ ¬ hasL l x z = true)) := by
  intro n
  induction n with
  | zero => exact ⟨fun r h => ⟨(hr r h).1, (hr r h).2⟩, ho, fun _ _ _ => rfl, ⟨List.Pairwise.nil, fun r hr => by simp [othF] at hr⟩, fun r hr => by simp [othF] at hr, fun x z _ _ h1 h2 => by omega⟩
  | succ n ih =>
    obtain ⟨a1, a2, a3, a4, a5, a6⟩ := ih
    obtain ⟨i1, i2, i3, i4, i5, i6, i7⟩ := othIn_spec (W := W) (y := (n : Int)) (othF W l n).2 0 a2 (fun r h => ⟨(a1 r h).1, (a1 r h).2.2, fun _ => (a1 r h).2.1⟩) (by omega) hW
    simp only [othF, othRow]
    have hrow : ∀ x, 0 ≤ x → x < W → (hasL ((othIn (n : Int) 0 (othF W l n).2).1 ++ if (othIn (n : Int) 0 (othF W l n).2).2.1 < W then [((n : Int), (othIn (n : Int) 0 (othF W l n).2).2.1, W)] else []) x n = true ↔ ¬ hasL l x n = true) := fun x h0 h1 => by
      rw [← a3 x n (Int.le_refl _), ← i6 x h0 h1, hasL_append, Bool.or_eq_true]
      have : hasL (if (othIn (n : Int) 0 (othF W l n).2).2.1 < W then [((n : Int), (othIn (n : Int) 0 (othF W l n).2).2.1, W)] else []) x n = true ↔ (othIn (n : Int) 0 (othF W l n).2).2.1 ≤ x := by
        split
        · rw [hasL_iff]; simp; omega
        · simp [hasL]; omega
      rw [this]
    refine ⟨fun r h => ?_, i3, fun x z hz => ?_, ⟨?_, fun r h => ?_⟩, fun r h => ?_, fun x z h0 h1 h2 h3 => ?_⟩
    · have := i2 r h
      have := a1 r this.1
      omega
    · rw [i7 x z (by omega), a3 x z (by omega)]
    · rw [List.pairwise_append]
      refine ⟨a4.1, ?_, fun r h s hs => ?_⟩
      · rw [List.pairwise_append]
        refine ⟨i4.1, by split <;> simp, fun r h s hs => ?_⟩
        have := i5 r h
        split at hs
        · simp at hs; subst hs; simp only; omega
        · simp at hs
      · have h1 := a5 r h
        left
        rcases List.mem_append.1 hs with hs | hs
        · have := i5 s hs; omega
        · split at hs
          · simp at hs; subst hs; simp only; omega
          · simp at hs
    · rcases List.mem_append.1 h with h | h
      · exact a4.2 r h
      · rcases List.mem_append.1 h with h | h
        · exact i4.2 r h
        · split at h
          · simp at h; subst h; simp only; omega
          · simp at h
    · rcases List.mem_append.1 h with h | h
      · have := a5 r h; omega
      · rcases List.mem_append.1 h with h | h
        · have := i5 r h; omega
        · split at h
          · simp at h; subst h; simp only; omega
          · simp at h
    · rw [hasL_append, Bool.or_eq_true]
      by_cases hz : z = (n : Int)
      · subst hz
        rw [← hrow x h0 h1]
        constructor
        · rintro (h | h)
          · rw [hasL_iff] at h
            obtain ⟨r, hr, h4, -⟩ := h
            have := a5 r hr
            omega
          · exact h
        · exact .inr
      · rw [← a6 x z h0 h1 h2 (by omega)]
        constructor
        · rintro (h | h)
          · exact h
          · exfalso
            rw [hasL_iff] at h
            obtain ⟨r, hr, h4, -⟩ := h
            rcases List.mem_append.1 hr with hr | hr
            · have := i5 r hr; omega
            · split at hr
              · simp at hr; subst hr; simp only at h4; omega
              · simp at hr
        · exact .inl
end Go.Proofs.Ytnbdnnbeiohmgaa
