/- GridLong: the plain law: what Either, Both and Without lay in a table has just the cells that the document asks, and lists of runs with the same cells are the same. -/
import Derived.Test.YtnbdnnbeiohmgaaLgComb
import Derived.Test.YtnbdnnbeiohmgaaGrReachP
import Derived.Test.YtnbdnnbeiohmgaaGrWithout
namespace Go.Proofs.Ytnbdnnbeiohmgaa
open Go.RowKit

/-- runs in order, apart, each with a cell -/
def Ord (l : List R3) : Prop := l.Pairwise (fun r s => r.1 < s.1 ∨ (r.1 = s.1 ∧ r.2.2 < s.2.1)) ∧ ∀ r, r ∈ l → r.2.1 < r.2.2
theorem Ord.tail {r : R3} {l : List R3} (h : Ord (r :: l)) : Ord l := ⟨(List.pairwise_cons.1 h.1).2, fun s hs => h.2 s (by simp [hs])⟩
theorem Ord.head {r : R3} {l : List R3} (h : Ord (r :: l)) : ∀ s, s ∈ l → r.1 < s.1 ∨ (r.1 = s.1 ∧ r.2.2 < s.2.1) := (List.pairwise_cons.1 h.1).1
theorem ord_of_right {W H : Int} : ∀ {l : List R3} {p : R3}, rightL W H p l = true → (∀ r, r ∈ l → r.2.1 < r.2.2) → Ord l ∧ ∀ r, r ∈ l → p.1 < r.1 ∨ (p.1 = r.1 ∧ p.2.2 < r.2.1)
  | [], p, _, _ => ⟨⟨List.Pairwise.nil, fun r hr => by simp at hr⟩, fun r hr => by simp at hr⟩
  | x :: l, p, h, ht => by
    simp only [rightL, Bool.and_eq_true] at h
    obtain ⟨h1, h2⟩ := ord_of_right h.2 (fun r hr => ht r (by simp [hr]))
    have h3 := h.1
    simp only [okR, inB, Bool.and_eq_true, decide_eq_true_eq, Bool.not_eq_true', Bool.and_eq_false_iff, beq_eq_false_iff_ne, decide_eq_false_iff_not] at h3
    have hx := ht x (by simp)
    refine ⟨⟨List.pairwise_cons.2 ⟨h2, h1.1⟩, ht⟩, fun r hr => ?_⟩
    rcases List.mem_cons.1 hr with e | e
    · subst e
      omega
    · have := h2 r e
      omega
theorem Proper.ord {W H : Int} {l : List R3} (h : Proper W H l) : Ord l := (ord_of_right h.1 h.2).1
theorem Proper.rows {W H : Int} {l : List R3} (h : Proper W H l) : ∀ r, r ∈ l → 0 ≤ r.1 ∧ r.1 < H ∧ 0 ≤ r.2.1 ∧ r.2.2 ≤ W := fun r hr => by
  have := right_rows h.1 r hr
  omega

theorem hasL_cons (r : R3) (l : List R3) (x y : Int) : hasL (r :: l) x y = (hasR x y r || hasL l x y) := rfl
theorem hasR_iff {x y : Int} {r : R3} : hasR x y r = true ↔ r.1 = y ∧ r.2.1 ≤ x ∧ x < r.2.2 := by
  simp only [hasR, Bool.and_eq_true, beq_iff_eq, decide_eq_true_eq, and_assoc]
theorem hasL_iff {l : List R3} {x y : Int} : hasL l x y = true ↔ ∃ r, r ∈ l ∧ r.1 = y ∧ r.2.1 ≤ x ∧ x < r.2.2 := by
  unfold hasL
  rw [List.any_eq_true]
  constructor
  · rintro ⟨r, hr, h⟩; exact ⟨r, hr, hasR_iff.1 h⟩
  · rintro ⟨r, hr, h⟩; exact ⟨r, hr, hasR_iff.2 h⟩

/-- what add lays, cell by cell -/
theorem addF_in {W H y a t x : Int} {f : Nat → List S2} {i : Nat} (hy : 0 ≤ y) :
    inS x (addF W H y a t f i) ↔ inS x (f i) ∨ ((i : Int) = y ∧ y < H ∧ 0 ≤ x ∧ x < W ∧ a ≤ x ∧ x < t) := by
  by_cases k : addOK W H y a t = true
  · rw [addF_yes k]
    simp only [addOK, inB, Bool.and_eq_true, decide_eq_true_eq] at k
    by_cases e : i = y.toNat
    · subst e
      rw [upd_same, inS_append, inS_one]
      simp only
      constructor
      · rintro (h | h)
        · exact .inl h
        · right; omega
      · rintro (h | h)
        · exact .inl h
        · right; omega
    · rw [upd_other _ _ e]
      constructor
      · exact .inl
      · rintro (h | h)
        · exact h
        · omega
  · rw [addF_no (by simpa using k)]
    constructor
    · exact .inl
    · rintro (h | h)
      · exact h
      · exfalso
        apply k
        simp only [addOK, inB, Bool.and_eq_true, decide_eq_true_eq]
        omega

/-- what Either lays -/
def eithF (W H : Int) (l : List R3) : Nat → List S2 := l.foldl (fun f r => addF W H r.1 r.2.1 r.2.2 f) fun _ => []
theorem eithF_take {W H : Int} {l : List R3} {k : Nat} {r : R3} (h : l[k]? = some r) : eithF W H (l.take (k + 1)) = addF W H r.1 r.2.1 r.2.2 (eithF W H (l.take k)) := by
  rw [List.take_add_one, h]
  simp [eithF]
theorem eithF_len (W H : Int) (l : List R3) (i : Nat) : (eithF W H l i).length ≤ l.length := by
  have key : ∀ (l : List R3) (f : Nat → List S2), (l.foldl (fun f r => addF W H r.1 r.2.1 r.2.2 f) f i).length ≤ (f i).length + l.length := by
    intro l
    induction l with
    | nil => intro f; simp
    | cons r l ih =>
      intro f
      have h1 := ih (addF W H r.1 r.2.1 r.2.2 f)
      have h2 := addF_len W H r.1 r.2.1 r.2.2 f i
      simp only [List.foldl_cons, List.length_cons]
      omega
  have := key l (fun _ => [])
  simpa [eithF] using this
theorem eithF_mem {W H : Int} {l : List R3} {i : Nat} {s : S2} (h : s ∈ eithF W H l i) : (i : Int) < H ∧ 0 ≤ s.1 ∧ s.1 < s.2 ∧ s.2 ≤ W := by
  have key : ∀ (l : List R3) (f : Nat → List S2), s ∈ l.foldl (fun f r => addF W H r.1 r.2.1 r.2.2 f) f i → s ∈ f i ∨ ((i : Int) < H ∧ 0 ≤ s.1 ∧ s.1 < s.2 ∧ s.2 ≤ W) := by
    intro l
    induction l with
    | nil => intro f h; exact .inl h
    | cons r l ih =>
      intro f h
      rcases ih _ h with h | h
      · exact addF_mem h
      · exact .inr h
  rcases key l _ h with h | h
  · simp at h
  · exact h
theorem eithF_in {W H : Int} {l : List R3} (hl : ∀ r, r ∈ l → 0 ≤ r.1 ∧ r.1 < H ∧ 0 ≤ r.2.1 ∧ r.2.2 ≤ W) (i : Nat) (x : Int) : inS x (eithF W H l i) ↔ hasL l x i = true := by
  have key : ∀ (l : List R3) (f : Nat → List S2), (∀ r, r ∈ l → 0 ≤ r.1 ∧ r.1 < H ∧ 0 ≤ r.2.1 ∧ r.2.2 ≤ W) → (inS x (l.foldl (fun f r => addF W H r.1 r.2.1 r.2.2 f) f i) ↔ inS x (f i) ∨ hasL l x i = true) := by
    intro l
    induction l with
    | nil => intro f _; simp [hasL]
    | cons r l ih =>
      intro f hr
      have h0 := hr r (by simp)
      rw [List.foldl_cons, ih _ (fun s hs => hr s (by simp [hs])), addF_in h0.1, hasL_cons, Bool.or_eq_true, hasR_iff]
      constructor
      · rintro ((h | h) | h)
        · exact .inl h
        · right; left; omega
        · exact .inr (.inr h)
      · rintro (h | h | h)
        · exact .inl (.inl h)
        · left; right; omega
        · exact .inr h
  have := key l (fun _ => []) hl
  unfold eithF
  rw [this]
  simp [inS]
theorem hasL_append (a b : List R3) (x y : Int) : hasL (a ++ b) x y = (hasL a x y || hasL b x y) := by simp [hasL]

/-- what Both lays -/
theorem bothF_in {W H x : Int} {i : Nat} : ∀ (n : Nat) (a b : List R3) (f : Nat → List S2), n = a.length + b.length → Ord a → Ord b → (∀ r, r ∈ a → 0 ≤ r.1 ∧ r.1 < H ∧ 0 ≤ r.2.1 ∧ r.2.2 ≤ W) → (∀ r, r ∈ b → 0 ≤ r.1) →
    (inS x (bothF W H n a b f i) ↔ inS x (f i) ∨ (hasL a x i = true ∧ hasL b x i = true)) := by
  intro n
  induction n with
  | zero =>
    intro a b f hn _ _ _ _
    have ha : a = [] := List.eq_nil_of_length_eq_zero (by omega)
    subst ha
    simp [bothF, hasL]
  | succ n ih =>
    intro a b f hn ha hb hra hrb
    cases a with
    | nil => simp [bothF_nilA, hasL]
    | cons p al =>
      cases b with
      | nil => simp [bothF_nilB, hasL]
      | cons q bl =>
        simp only [List.length_cons] at hn
        have hp := ha.2 p (by simp)
        have hq := hb.2 q (by simp)
        have hp0 := hra p (by simp)
        -- what meet lays
        have hm : inS x (meet W H p q f i) ↔ inS x (f i) ∨ (hasR x i p = true ∧ hasR x i q = true) := by
          rw [hasR_iff, hasR_iff]
          unfold meet
          by_cases e : p.1 = q.1
          · rw [if_pos e, addF_in hp0.1]
            constructor
            · rintro (h | h)
              · exact .inl h
              · right; omega
            · rintro (h | h)
              · exact .inl h
              · right; omega
          · rw [if_neg e]
            constructor
            · exact .inl
            · rintro (h | h)
              · exact h
              · omega
        rw [bothF]
        by_cases hg : goA p q = true
        · rw [if_pos hg, ih al (q :: bl) _ (by simp only [List.length_cons]; omega) ha.tail hb (fun r hr => hra r (by simp [hr])) hrb, hm, hasL_cons, hasL_cons, Bool.or_eq_true, Bool.or_eq_true]
          have hno : hasR x i p = true → hasL bl x i = true → False := by
            rw [hasR_iff, hasL_iff]
            rintro ⟨h1, h2, h3⟩ ⟨r, hr, h4, h5, h6⟩
            have := hb.head r hr
            simp only [goA, Bool.or_eq_true, Bool.and_eq_true, decide_eq_true_eq, beq_iff_eq] at hg
            omega
          constructor
          · rintro ((h | h) | h)
            · exact .inl h
            · exact .inr ⟨.inl h.1, .inl h.2⟩
            · exact .inr ⟨.inr h.1, h.2⟩
          · rintro (h | ⟨h1 | h1, h2⟩)
            · exact .inl (.inl h)
            · rcases h2 with h2 | h2
              · exact .inl (.inr ⟨h1, h2⟩)
              · exact absurd h2 (fun h => hno h1 h)
            · exact .inr ⟨h1, h2⟩
        · rw [if_neg hg, ih (p :: al) bl _ (by simp only [List.length_cons]; omega) ha hb.tail hra (fun r hr => hrb r (by simp [hr])), hm, hasL_cons, hasL_cons, Bool.or_eq_true, Bool.or_eq_true]
          have hno : hasL al x i = true → hasR x i q = true → False := by
            rw [hasR_iff, hasL_iff]
            rintro ⟨r, hr, h4, h5, h6⟩ ⟨h1, h2, h3⟩
            have := ha.head r hr
            simp only [goA, Bool.or_eq_true, Bool.and_eq_true, decide_eq_true_eq, beq_iff_eq] at hg
            omega
          constructor
          · rintro ((h | h) | h)
            · exact .inl h
            · exact .inr ⟨.inl h.1, .inl h.2⟩
            · exact .inr ⟨h.1, .inr h.2⟩
          · rintro (h | ⟨h1, h2 | h2⟩)
            · exact .inl (.inl h)
            · rcases h1 with h1 | h1
              · exact .inl (.inr ⟨h1, h2⟩)
              · exact absurd h2 (fun h => hno h1 h)
            · exact .inr ⟨h1, h2⟩

/-- the runs between those of a row, cell by cell -/
theorem othIn_spec {W y : Int} : ∀ (l : List R3) (p : Int), Ord l → (∀ r, r ∈ l → y ≤ r.1 ∧ r.2.2 ≤ W ∧ (r.1 = y → p ≤ r.2.1)) → 0 ≤ p → p ≤ W →
    (p ≤ (othIn y p l).2.1 ∧ (othIn y p l).2.1 ≤ W) ∧ (∀ r, r ∈ (othIn y p l).2.2 → r ∈ l ∧ y < r.1) ∧ Ord (othIn y p l).2.2 ∧
    Ord (othIn y p l).1 ∧ (∀ r, r ∈ (othIn y p l).1 → r.1 = y ∧ p ≤ r.2.1 ∧ r.2.2 < (othIn y p l).2.1) ∧
    (∀ x, p ≤ x → x < W → (hasL (othIn y p l).1 x y = true ∨ (othIn y p l).2.1 ≤ x ↔ ¬ hasL l x y = true)) ∧ (∀ x z, y < z → hasL (othIn y p l).2.2 x z = hasL l x z) := by
  intro l
  induction l with
  | nil =>
    intro p _ _ h0 hW
    simp only [othIn]
    exact ⟨⟨by omega, hW⟩, fun r hr => by simp at hr, ⟨List.Pairwise.nil, fun r hr => by simp at hr⟩, ⟨List.Pairwise.nil, fun r hr => by simp at hr⟩, fun r hr => by simp at hr, fun x hx _ => by simp [hasL]; omega, fun x z _ => by first | rfl | trivial⟩
  | cons r l ih =>
    intro p ho hr h0 hW
    by_cases e : r.1 = y
    · have h1 := hr r (by simp)
      have h2 := ho.2 r (by simp)
      have hp := h1.2.2 e
      obtain ⟨i1, i2, i3, i4, i5, i6, i7⟩ := ih r.2.2 ho.tail (fun s hs => ⟨(hr s (by simp [hs])).1, (hr s (by simp [hs])).2.1, fun es => by have := ho.head s hs; omega⟩) (by omega) h1.2.1
      simp only [othIn]
      rw [if_pos e]
      dsimp only
      refine ⟨⟨by omega, i1.2⟩, fun s hs => ⟨by simp [(i2 s hs).1], (i2 s hs).2⟩, i3, ?_, fun s hs => ?_, fun x hx hxW => ?_, fun x z hz => ?_⟩
      · refine ⟨?_, fun s hs => ?_⟩
        · rw [List.pairwise_append]
          refine ⟨by split <;> simp, i4.1, fun s hs t ht => ?_⟩
          have := i5 t ht
          split at hs
          · simp at hs; subst hs; simp only; omega
          · simp at hs
        · rcases List.mem_append.1 hs with hs | hs
          · split at hs
            · simp at hs; subst hs; simp only; omega
            · simp at hs
          · exact i4.2 s hs
      · rcases List.mem_append.1 hs with hs | hs
        · split at hs
          · simp at hs
            subst hs
            exact ⟨rfl, Int.le_refl _, by dsimp only; omega⟩
          · simp at hs
        · have := i5 s hs
          omega
      · rw [hasL_append, hasL_cons, Bool.or_eq_true, Bool.or_eq_true, hasR_iff]
        have hf : hasL (if p < r.2.1 then [(y, p, r.2.1)] else []) x y = true ↔ (p ≤ x ∧ x < r.2.1) := by
          split
          · rw [hasL_iff]; simp
          · simp [hasL]; omega
        rw [hf]
        by_cases hx2 : r.2.2 ≤ x
        · have := i6 x hx2 hxW
          constructor
          · rintro ((h | h) | h)
            · omega
            · rintro (k | k)
              · omega
              · exact this.1 (.inl h) k
            · rintro (k | k)
              · omega
              · exact this.1 (.inr h) k
          · intro k
            rcases this.2 (fun h => k (.inr h)) with h | h
            · exact .inl (.inr h)
            · exact .inr h
        · have hn1 : ¬ hasL l x y = true := by
            rw [hasL_iff]
            rintro ⟨s, hs, h4, h5, h6⟩
            have := ho.head s hs
            omega
          have hn2 : ¬ hasL (othIn y r.2.2 l).1 x y = true := by
            rw [hasL_iff]
            rintro ⟨s, hs, h4, h5, h6⟩
            have := i5 s hs
            omega
          constructor
          · rintro ((h | h) | h)
            · rintro (k | k)
              · omega
              · exact hn1 k
            · exact absurd h hn2
            · omega
          · intro k
            left; left
            refine ⟨hx, ?_⟩
            rcases Int.lt_or_le x r.2.1 with h | h
            · exact h
            · exact absurd (.inl ⟨e, h, by omega⟩) k
      · rw [i7 x z hz, hasL_cons]
        have : hasR x z r = false := by
          cases h : hasR x z r with
          | false => rfl
          | true => rw [hasR_iff] at h; omega
        rw [this, Bool.false_or]
    · have h1 := hr r (by simp)
      simp only [othIn]
      rw [if_neg e]
      dsimp only
      refine ⟨⟨by omega, hW⟩, fun s hs => ⟨hs, ?_⟩, ho, ⟨List.Pairwise.nil, fun r hr => by simp at hr⟩, fun r hr => by simp at hr, fun x hx hxW => ?_, fun x z _ => rfl⟩
      · rcases List.mem_cons.1 hs with k | k
        · subst k; omega
        · have := ho.head s k; omega
      · have hn : ¬ hasL (r :: l) x y = true := by
          rw [hasL_iff]
          rintro ⟨s, hs, h4, h5, h6⟩
          rcases List.mem_cons.1 hs with k | k
          · subst k; omega
          · have := ho.head s k; omega
        constructor
        · intro _; exact hn
        · intro _; right; exact hx

theorem othF_spec {W : Int} (hW : 0 ≤ W) {l : List R3} (ho : Ord l) (hr : ∀ r, r ∈ l → 0 ≤ r.1 ∧ 0 ≤ r.2.1 ∧ r.2.2 ≤ W) : ∀ n : Nat,
    (∀ r, r ∈ (othF W l n).2 → (n : Int) ≤ r.1 ∧ 0 ≤ r.2.1 ∧ r.2.2 ≤ W) ∧ Ord (othF W l n).2 ∧ (∀ (x : Int) (z : Int), (n : Int) ≤ z → hasL (othF W l n).2 x z = hasL l x z) ∧
    Ord (othF W l n).1 ∧ (∀ r, r ∈ (othF W l n).1 → 0 ≤ r.1 ∧ r.1 < n ∧ 0 ≤ r.2.1 ∧ r.2.2 ≤ W) ∧
    (∀ (x : Int) (z : Int), 0 ≤ x → x < W → 0 ≤ z → z < n → (hasL (othF W l n).1 x z = true ↔ ¬ hasL l x z = true)) := by
  intro n
  induction n with
  | zero => exact ⟨fun r h => ⟨(hr r h).1, (hr r h).2⟩, ho, fun _ _ _ => rfl, ⟨List.Pairwise.nil, fun r hr => by simp [othF] at hr⟩, fun r hr => by simp [othF] at hr, fun x z _ _ h1 h2 => by omega⟩
  | succ n ih =>
    obtain ⟨a1, a2, a3, a4, a5, a6⟩ := ih
    obtain ⟨i1, i2, i3, i4, i5, i6, i7⟩ := othIn_spec (W := W) (y := (n : Int)) (othF W l n).2 0 a2 (fun r h => ⟨(a1 r h).1, (a1 r h).2.2, fun _ => (a1 r h).2.1⟩) (by omega) hW
    simp only [othF, othRow]
    have hrow : ∀ x, 0 ≤ x → x < W → (hasL ((othIn (n : Int) 0 (othF W l n).2).1 ++ if (othIn (n : Int) 0 (othF W l n).2).2.1 < W then [((n : Int), (othIn (n : Int) 0 (othF W l n).2).2.1, W)] else []) x n = true ↔ ¬ hasL l x n = true) := fun x h0 h1 => by
      rw [← a3 x n (Int.le_refl _), ← i6 x h0 h1, hasL_append, Bool.or_eq_true]
      have : hasL (if (othIn (n : Int) 0 (othF W l n).2).2.1 < W then [((n : Int), (othIn (n : Int) 0 (othF W l n).2).2.1, W)] else []) x n = true ↔ (othIn (n : Int) 0 (othF W l n).2).2.1 ≤ x := by
        split
        · rw [hasL_iff]; simp; omega
        · simp [hasL]; omega
      rw [this]
    refine ⟨fun r h => ?_, i3, fun x z hz => ?_, ⟨?_, fun r h => ?_⟩, fun r h => ?_, fun x z h0 h1 h2 h3 => ?_⟩
    · have := i2 r h
      have := a1 r this.1
      omega
    · rw [i7 x z (by omega), a3 x z (by omega)]
    · rw [List.pairwise_append]
      refine ⟨a4.1, ?_, fun r h s hs => ?_⟩
      · rw [List.pairwise_append]
        refine ⟨i4.1, by split <;> simp, fun r h s hs => ?_⟩
        have := i5 r h
        split at hs
        · simp at hs; subst hs; simp only; omega
        · simp at hs
      · have h1 := a5 r h
        left
        rcases List.mem_append.1 hs with hs | hs
        · have := i5 s hs; omega
        · split at hs
          · simp at hs; subst hs; simp only; omega
          · simp at hs
    · rcases List.mem_append.1 h with h | h
      · exact a4.2 r h
      · rcases List.mem_append.1 h with h | h
        · exact i4.2 r h
        · split at h
          · simp at h; subst h; simp only; omega
          · simp at h
    · rcases List.mem_append.1 h with h | h
      · have := a5 r h; omega
      · rcases List.mem_append.1 h with h | h
        · have := i5 r h; omega
        · split at h
          · simp at h; subst h; simp only; omega
          · simp at h
    · rw [hasL_append, Bool.or_eq_true]
      by_cases hz : z = (n : Int)
      · subst hz
        rw [← hrow x h0 h1]
        constructor
        · rintro (h | h)
          · rw [hasL_iff] at h
            obtain ⟨r, hr, h4, -⟩ := h
            have := a5 r hr
            omega
          · exact h
        · exact .inr
      · rw [← a6 x z h0 h1 h2 (by omega)]
        constructor
        · rintro (h | h)
          · exact h
          · exfalso
            rw [hasL_iff] at h
            obtain ⟨r, hr, h4, -⟩ := h
            rcases List.mem_append.1 hr with hr | hr
            · have := i5 r hr; omega
            · split at hr
              · simp at hr; subst hr; simp only at h4; omega
              · simp at hr
        · exact .inl
end Go.Proofs.Ytnbdnnbeiohmgaa
/- Lists of runs with the same cells are the same; the document's list of runs of a set. -/
namespace Go.Proofs.Ytnbdnnbeiohmgaa
open Go.RowKit

theorem Sep.tail {s : S2} {m : List S2} (h : Sep (s :: m)) : Sep m := ⟨(List.pairwise_cons.1 h.1).2, fun a ha => h.2 a (by simp [ha])⟩
theorem Sep.head {s : S2} {m : List S2} (h : Sep (s :: m)) : ∀ a, a ∈ m → s.2 < a.1 := (List.pairwise_cons.1 h.1).1
theorem sep_ext : ∀ {m n : List S2}, Sep m → Sep n → (∀ x, inS x m ↔ inS x n) → m = n
  | [], [], _, _, _ => rfl
  | [], b :: n, _, hn, h => by
    have := hn.2 b (by simp)
    obtain ⟨s, hs, -⟩ := (h b.1).2 ⟨b, by simp, by omega, by omega⟩
    simp at hs
  | a :: m, [], hm, _, h => by
    have := hm.2 a (by simp)
    obtain ⟨s, hs, -⟩ := (h a.1).1 ⟨a, by simp, by omega, by omega⟩
    simp at hs
  | a :: m, b :: n, hm, hn, h => by
    have ha := hm.2 a (by simp)
    have hb := hn.2 b (by simp)
    have h1 : b.1 ≤ a.1 := by
      obtain ⟨s, hs, k1, k2⟩ := (h a.1).1 ⟨a, by simp, by omega, by omega⟩
      rcases List.mem_cons.1 hs with e | e
      · subst e; exact k1
      · have := hn.head s e; omega
    have h2 : a.1 ≤ b.1 := by
      obtain ⟨s, hs, k1, k2⟩ := (h b.1).2 ⟨b, by simp, by omega, by omega⟩
      rcases List.mem_cons.1 hs with e | e
      · subst e; exact k1
      · have := hm.head s e; omega
    have h3 : b.2 ≤ a.2 := by
      rcases Int.lt_or_le a.2 b.2 with k | k
      · obtain ⟨s, hs, k1, k2⟩ := (h a.2).2 ⟨b, by simp, by omega, k⟩
        rcases List.mem_cons.1 hs with e | e
        · subst e; omega
        · have := hm.head s e; omega
      · exact k
    have h4 : a.2 ≤ b.2 := by
      rcases Int.lt_or_le b.2 a.2 with k | k
      · obtain ⟨s, hs, k1, k2⟩ := (h b.2).1 ⟨a, by simp, by omega, k⟩
        rcases List.mem_cons.1 hs with e | e
        · subst e; omega
        · have := hn.head s e; omega
      · exact k
    have e : a = b := Prod.ext (by omega) (by omega)
    subst e
    congr 1
    refine sep_ext hm.tail hn.tail fun x => ?_
    constructor
    · rintro ⟨s, hs, k1, k2⟩
      have := hm.head s hs
      obtain ⟨t, ht, k3, k4⟩ := (h x).1 ⟨s, by simp [hs], k1, k2⟩
      rcases List.mem_cons.1 ht with e | e
      · subst e; omega
      · exact ⟨t, e, k3, k4⟩
    · rintro ⟨s, hs, k1, k2⟩
      have := hn.head s hs
      obtain ⟨t, ht, k3, k4⟩ := (h x).2 ⟨s, by simp [hs], k1, k2⟩
      rcases List.mem_cons.1 ht with e | e
      · subst e; omega
      · exact ⟨t, e, k3, k4⟩

/-- the document's way: a cell behind the last run makes it longer, or is a new one -/
def joinX (o : List S2) (x : Int) : List S2 :=
  match o.getLast? with
  | some a => if a.2 = x then o.dropLast ++ [(a.1, x + 1)] else o ++ [(x, x + 1)]
  | none => [(x, x + 1)]
def runRow (f : Int → Bool) : Nat → List S2
  | 0 => []
  | n + 1 => if f n = true then joinX (runRow f n) n else runRow f n
theorem joinX_in {o : List S2} {a : S2} {x : Int} (h : a.2 = x) : joinX (o ++ [a]) x = o ++ [(a.1, x + 1)] := by simp [joinX, h]
theorem joinX_out {o : List S2} {a : S2} {x : Int} (h : a.2 ≠ x) : joinX (o ++ [a]) x = o ++ [a] ++ [(x, x + 1)] := by simp [joinX, h]
theorem runRow_spec (f : Int → Bool) : ∀ n : Nat, Sep (runRow f n) ∧ (∀ s, s ∈ runRow f n → 0 ≤ s.1 ∧ s.2 ≤ n) ∧ ∀ x : Int, inS x (runRow f n) ↔ 0 ≤ x ∧ x < n ∧ f x = true := by
  intro n
  induction n with
  | zero => exact ⟨⟨List.Pairwise.nil, fun s hs => by simp [runRow] at hs⟩, fun s hs => by simp [runRow] at hs, fun x => by simp [runRow, inS]; omega⟩
  | succ n ih =>
    obtain ⟨h1, h2, h3⟩ := ih
    simp only [runRow]
    by_cases hf : f n = true
    · rw [if_pos hf]
      have hx : ∀ x : Int, (0 ≤ x ∧ x < ((n + 1 : Nat) : Int) ∧ f x = true) ↔ (inS x (runRow f n) ∨ x = n) := fun x => by
        rw [h3 x]
        constructor
        · rintro ⟨a, b, c⟩
          by_cases e : x = n
          · exact .inr e
          · exact .inl ⟨a, by omega, c⟩
        · rintro (⟨a, b, c⟩ | e)
          · exact ⟨a, by omega, c⟩
          · subst e; exact ⟨by omega, by omega, hf⟩
      simp only [hx]
      clear hx h3
      rcases List.eq_nil_or_concat (runRow f n) with e | ⟨o, a, e⟩
      · rw [e]
        refine ⟨⟨by simp [joinX], fun s hs => ?_⟩, fun s hs => ?_, fun x => ?_⟩
        · simp [joinX] at hs; subst hs; simp only; omega
        · simp [joinX] at hs; subst hs; simp only; omega
        · simp [joinX, inS]; omega
      · rw [List.concat_eq_append] at e
        rw [e] at h1 h2 ⊢
        have ha := h2 a (by simp)
        have haa := h1.2 a (by simp)
        have hp := List.pairwise_append.1 h1.1
        by_cases hj : a.2 = n
        · rw [joinX_in hj]
          refine ⟨⟨?_, fun s hs => ?_⟩, fun s hs => ?_, fun x => ?_⟩
          · rw [List.pairwise_append]
            refine ⟨hp.1, by simp, fun s hs t ht => ?_⟩
            simp at ht; subst ht
            exact hp.2.2 s hs a (by simp)
          · rcases List.mem_append.1 hs with hs | hs
            · exact h1.2 s (by simp [hs])
            · simp at hs; subst hs; simp only; omega
          · rcases List.mem_append.1 hs with hs | hs
            · have := h2 s (by simp [hs]); omega
            · simp at hs; subst hs; simp only; omega
          · rw [inS_append, inS_append, inS_one, inS_one]
            simp only
            constructor
            · rintro (h | h)
              · exact .inl (.inl h)
              · by_cases e2 : x = n
                · exact .inr e2
                · left; right; omega
            · rintro ((h | h) | h)
              · exact .inl h
              · right; omega
              · right; omega
        · rw [joinX_out hj]
          refine ⟨⟨?_, fun s hs => ?_⟩, fun s hs => ?_, fun x => ?_⟩
          · rw [List.pairwise_append]
            refine ⟨h1.1, by simp, fun s hs t ht => ?_⟩
            simp at ht; subst ht
            simp only
            rcases List.mem_append.1 hs with hs | hs
            · have := hp.2.2 s hs a (by simp); omega
            · simp at hs; subst hs; omega
          · rcases List.mem_append.1 hs with hs | hs
            · exact h1.2 s hs
            · simp at hs; subst hs; simp only; omega
          · rcases List.mem_append.1 hs with hs | hs
            · have := h2 s hs; omega
            · simp at hs; subst hs; simp only; omega
          · rw [inS_append, inS_one]
            simp only
            constructor
            · rintro (h | h)
              · exact .inl h
              · right; omega
            · rintro (h | h)
              · exact .inl h
              · right; omega
    · rw [if_neg hf]
      refine ⟨h1, fun s hs => by have := h2 s hs; omega, fun x => ?_⟩
      rw [h3 x]
      constructor
      · rintro ⟨a, b, c⟩; exact ⟨a, by omega, c⟩
      · rintro ⟨a, b, c⟩
        refine ⟨a, ?_, c⟩
        rcases Int.lt_or_le x n with h | h
        · exact h
        · have e : x = n := by omega
          subst e
          exact absurd c hf

/-- the document's runs of a set of cells -/
def refR (P : Int → Int → Bool) (W H : Nat) : List R3 := rowsR (fun y => runRow (fun x => P x y) W) H
theorem rowsR_congr {ms ns : Nat → List S2} : ∀ {n : Nat}, (∀ y, y < n → ms y = ns y) → rowsR ms n = rowsR ns n
  | 0, _ => by simp [rowsR]
  | n + 1, h => by rw [rowsR_succ, rowsR_succ, rowsR_congr (fun y hy => h y (by omega)), h n (by omega)]
theorem rowsR_cut {ms : Nat → List S2} {H : Nat} : ∀ {n : Nat}, H ≤ n → (∀ y, H ≤ y → y < n → ms y = []) → rowsR ms n = rowsR ms H
  | 0, h, _ => by have : H = 0 := by omega
                  subst this; rfl
  | n + 1, h, he => by
    by_cases e : H = n + 1
    · subst e; rfl
    · rw [rowsR_succ, he n (by omega) (by omega), rowsR_cut (n := n) (by omega) (fun y h1 h2 => he y h1 (by omega))]
      simp [rowR]
theorem reg_eq {f : Nat → List S2} {R : List R3} {P : Int → Int → Bool} {W H : Nat} (hH : H ≤ 256) (h : RegOf f R) (hf : ∀ i s, s ∈ f i → i < H ∧ 0 ≤ s.1 ∧ s.1 < s.2 ∧ s.2 ≤ (W : Int))
    (hP : ∀ i, i < H → ∀ x : Int, 0 ≤ x → x < W → (inS x (f i) ↔ P x i = true)) : R = refR P W H := by
  obtain ⟨ms, hm, rfl⟩ := h
  have hE : ∀ y, H ≤ y → y < 256 → ms y = [] := fun y h1 h2 => by
    have h3 := (hm y h2).length
    have h4 : f y = [] := by
      rcases List.eq_nil_or_concat (f y) with e | ⟨o, s, e⟩
      · exact e
      · have := hf y s (by rw [e]; simp)
        omega
    rw [h4] at h3
    exact List.eq_nil_of_length_eq_zero (by simpa using h3)
  rw [rowsR_cut hH hE]
  refine rowsR_congr fun y hy => ?_
  obtain ⟨l', hp, hs, e⟩ := hm y (by omega)
  obtain ⟨r1, r2, r3⟩ := runRow_spec (fun x => P x y) W
  have hms := hm y (by omega)
  have hSep : Sep (ms y) := by rw [e]; exact (mergeL_spec hs (fun s hx => (hf y s (hp.mem_iff.1 hx)).2.2.1)).1
  refine sep_ext hSep r1 fun x => ?_
  rw [hms.has (fun s hx => (hf y s hx).2.2.1) x, r3 x]
  constructor
  · intro hx
    have hx' := hx
    obtain ⟨s, hsm, k1, k2⟩ := hx
    have := hf y s hsm
    exact ⟨by omega, by omega, (hP y hy x (by omega) (by omega)).1 hx'⟩
  · rintro ⟨k1, k2, k3⟩
    exact (hP y hy x k1 k2).2 k3
end Go.Proofs.Ytnbdnnbeiohmgaa
/- GridLong: what Either, Both and Without come to are the document's runs of the sets. -/
namespace Go.Proofs.Ytnbdnnbeiohmgaa
open Go.RowKit

theorem reg_eq' {f : Nat → List S2} {R : List R3} {P : Int → Int → Bool} {W H : Int} (hW : 1 ≤ W ∧ W ≤ 256) (hH : 1 ≤ H ∧ H ≤ 256) (h : RegOf f R) (hf : ∀ i s, s ∈ f i → (i : Int) < H ∧ 0 ≤ s.1 ∧ s.1 < s.2 ∧ s.2 ≤ W)
    (hP : ∀ i : Nat, (i : Int) < H → ∀ x : Int, 0 ≤ x → x < W → (inS x (f i) ↔ P x i = true)) : R = refR P W.toNat H.toNat := by
  have e : ((W.toNat : Nat) : Int) = W := by omega
  refine reg_eq (by omega) h (fun i s hs => ?_) (fun i hi x h0 h1 => ?_)
  · have := hf i s hs
    rw [e]
    omega
  · rw [e] at h1
    exact hP i (by omega) x h0 h1

theorem either_eq {W H : Int} {a b R : List R3} (hW : 1 ≤ W ∧ W ≤ 256) (hH : 1 ≤ H ∧ H ≤ 256) (ha : Proper W H a) (hb : Proper W H b) (h : RegOf (eithF W H (a ++ b)) R) : R = refR (fun x y => hasL a x y || hasL b x y) W.toNat H.toNat := by
  refine reg_eq' hW hH h (fun i s hs => eithF_mem hs) (fun i hi x h0 h1 => ?_)
  rw [eithF_in (fun r hr => ?_), hasL_append]
  rcases List.mem_append.1 hr with hr | hr
  · exact ha.rows r hr
  · exact hb.rows r hr

theorem both_eq {W H : Int} {a b R : List R3} (hW : 1 ≤ W ∧ W ≤ 256) (hH : 1 ≤ H ∧ H ≤ 256) (ha : Proper W H a) (hb : Proper W H b) (h : RegOf (bothF W H (a.length + b.length) a b fun _ => []) R) : R = refR (fun x y => hasL a x y && hasL b x y) W.toNat H.toNat := by
  refine reg_eq' hW hH h (fun i s hs => ?_) (fun i hi x h0 h1 => ?_)
  · rcases bothF_mem _ _ _ _ _ _ hs with h | h
    · simp at h
    · exact h
  · rw [bothF_in _ a b _ rfl ha.ord hb.ord ha.rows (fun r hr => (hb.rows r hr).1), Bool.and_eq_true]
    simp [inS]

theorem without_eq {W H : Int} {a b R : List R3} (hW : 1 ≤ W ∧ W ≤ 256) (hH : 1 ≤ H ∧ H ≤ 256) (ha : Proper W H a) (hb : Proper W H b) (h : RegOf (bothF W H (a.length + (othF W b H.toNat).1.length) a (othF W b H.toNat).1 fun _ => []) R) : R = refR (fun x y => hasL a x y && !hasL b x y) W.toNat H.toNat := by
  obtain ⟨-, -, -, o4, o5, o6⟩ := othF_spec (W := W) (by omega) hb.ord (fun r hr => ⟨(hb.rows r hr).1, (hb.rows r hr).2.2⟩) H.toNat
  refine reg_eq' hW hH h (fun i s hs => ?_) (fun i hi x h0 h1 => ?_)
  · rcases bothF_mem _ _ _ _ _ _ hs with h | h
    · simp at h
    · exact h
  · rw [bothF_in _ a _ _ rfl ha.ord o4 ha.rows (fun r hr => (o5 r hr).1), Bool.and_eq_true, Bool.not_eq_true', ← Bool.not_eq_true, o6 x i h0 h1 (by omega) (by omega)]
    simp [inS]
end Go.Proofs.Ytnbdnnbeiohmgaa
