/- GridLong: the plain law: what Either, Both and Without lay in a table has just the cells that the document asks, and lists of runs with the same cells are the same. -/
import Derived.Test.YtnbdnnbeiohmgaaGrH
import Derived.Test.YtnbdnnbeiohmgaaGrE
namespace Go.Proofs.Ytnbdnnbeiohmgaa
open Go.RowKit

/-- runs in order, apart, each with a cell -/
def Ord (l : List R3) : Prop := l.Pairwise (fun r s => r.1 < s.1 ∨ (r.1 = s.1 ∧ r.2.2 < s.2.1)) ∧ ∀ r, r ∈ l → r.2.1 < r.2.2
theorem Ord.tail {r : R3} {l : List R3} (h : Ord (r :: l)) : Ord l := ⟨(List.pairwise_cons.1 h.1).2, fun s hs => h.2 s (by simp [hs])⟩
theorem Ord.head {r : R3} {l : List R3} (h : Ord (r :: l)) : ∀ s, s ∈ l → r.1 < s.1 ∨ (r.1 = s.1 ∧ r.2.2 < s.2.1) := (List.pairwise_cons.1 h.1).1
theorem ord_of_right {W H : Int} : ∀ {l : List R3} {p : R3}, rightL W H p l = true → (∀ r, r ∈ l → r.2.1 < r.2.2) → Ord l ∧ ∀ r, r ∈ l → p.1 < r.1 ∨ (p.1 = r.1 ∧ p.2.2 < r.2.1)
  | [], p, _, _ => ⟨⟨List.Pairwise.nil, fun r hr => by simp at hr⟩, fun r hr => by simp at hr⟩
  | x :: l, p, h, ht => by
    simp only [rightL, Bool.and_eq_true] at h
    obtain ⟨h1, h2⟩ := ord_of_right h.2 (fun r hr => ht r (by simp [hr]))
    have h3 := h.1
    simp only [okR, inB, Bool.and_eq_true, decide_eq_true_eq, Bool.not_eq_true', Bool.and_eq_false_iff, beq_eq_false_iff_ne, decide_eq_false_iff_not] at h3
    have hx := ht x (by simp)
    refine ⟨⟨List.pairwise_cons.2 ⟨h2, h1.1⟩, ht⟩, fun r hr => ?_⟩
    rcases List.mem_cons.1 hr with e | e
    · subst e
      omega
    · have := h2 r e
      omega
theorem Proper.ord {W H : Int} {l : List R3} (h : Proper W H l) : Ord l := (ord_of_right h.1 h.2).1
theorem Proper.rows {W H : Int} {l : List R3} (h : Proper W H l) : ∀ r, r ∈ l → 0 ≤ r.1 ∧ r.1 < H ∧ 0 ≤ r.2.1 ∧ r.2.2 ≤ W := fun r hr => by
  have := right_rows h.1 r hr
  omega

/-- what add lays, cell by cell -/
theorem addF_in {W H y a t x : Int} {f : Nat → List S2} {i : Nat} (hy : 0 ≤ y) :
    inS x (addF W H y a t f i) ↔ inS x (f i) ∨ ((i : Int) = y ∧ y < H ∧ 0 ≤ x ∧ x < W ∧ a ≤ x ∧ x < t) := by
  by_cases k : addOK W H y a t = true
  · rw [addF_yes k]
    simp only [addOK, inB, Bool.and_eq_true, decide_eq_true_eq] at k
    by_cases e : i = y.toNat
    · subst e
      rw [upd_same, inS_append, inS_one]
      simp only
      constructor
      · rintro (h | h)
        · exact .inl h
        · right; omega
      · rintro (h | h)
        · exact .inl h
        · right; omega
    · rw [upd_other _ _ e]
      constructor
      · exact .inl
      · rintro (h | h)
        · exact h
        · omega
  · rw [addF_no (by simpa using k)]
    constructor
    · exact .inl
    · rintro (h | h)
      · exact h
      · exfalso
        apply k
        simp only [addOK, inB, Bool.and_eq_true, decide_eq_true_eq]
        omega

end Go.Proofs.Ytnbdnnbeiohmgaa
/- Lists of runs with the same cells are the same; the document's list of runs of a set. -/
namespace Go.Proofs.Ytnbdnnbeiohmgaa
open Go.RowKit

theorem Sep.tail {s : S2} {m : List S2} (h : Sep (s :: m)) : Sep m := ⟨(List.pairwise_cons.1 h.1).2, fun a ha => h.2 a (by simp [ha])⟩
theorem Sep.head {s : S2} {m : List S2} (h : Sep (s :: m)) : ∀ a, a ∈ m → s.2 < a.1 := (List.pairwise_cons.1 h.1).1
theorem sep_ext : ∀ {m n : List S2}, Sep m → Sep n → (∀ x, inS x m ↔ inS x n) → m = n
  | [], [], _, _, _ => rfl
  | [], b :: n, _, hn, h => by
    have := hn.2 b (by simp)
    obtain ⟨s, hs, -⟩ := (h b.1).2 ⟨b, by simp, by omega, by omega⟩
    simp at hs
  | a :: m, [], hm, _, h => by
    have := hm.2 a (by simp)
    obtain ⟨s, hs, -⟩ := (h a.1).1 ⟨a, by simp, by omega, by omega⟩
    simp at hs
  | a :: m, b :: n, hm, hn, h => by
    have ha := hm.2 a (by simp)
    have hb := hn.2 b (by simp)
    have h1 : b.1 ≤ a.1 := by
      obtain ⟨s, hs, k1, k2⟩ := (h a.1).1 ⟨a, by simp, by omega, by omega⟩
      rcases List.mem_cons.1 hs with e | e
      · subst e; exact k1
      · have := hn.head s e; omega
    have h2 : a.1 ≤ b.1 := by
      obtain ⟨s, hs, k1, k2⟩ := (h b.1).2 ⟨b, by simp, by omega, by omega⟩
      rcases List.mem_cons.1 hs with e | e
      · subst e; exact k1
      · have := hm.head s e; omega
    have h3 : b.2 ≤ a.2 := by
      rcases Int.lt_or_le a.2 b.2 with k | k
      · obtain ⟨s, hs, k1, k2⟩ := (h a.2).2 ⟨b, by simp, by omega, k⟩
        rcases List.mem_cons.1 hs with e | e
        · subst e; omega
        · have := hm.head s e; omega
      · exact k
    have h4 : a.2 ≤ b.2 := by
      rcases Int.lt_or_le b.2 a.2 with k | k
      · obtain ⟨s, hs, k1, k2⟩ := (h b.2).1 ⟨a, by simp, by omega, k⟩
        rcases List.mem_cons.1 hs with e | e
        · subst e; omega
        · have := hn.head s e; omega
      · exact k
    have e : a = b := Prod.ext (by omega) (by omega)
    subst e
    congr 1
    refine sep_ext hm.tail hn.tail fun x => ?_
    constructor
    · rintro ⟨s, hs, k1, k2⟩
      have := hm.head s hs
      obtain ⟨t, ht, k3, k4⟩ := (h x).1 ⟨s, by simp [hs], k1, k2⟩
      rcases List.mem_cons.1 ht with e | e
      · subst e; omega
      · exact ⟨t, e, k3, k4⟩
    · rintro ⟨s, hs, k1, k2⟩
      have := hn.head s hs
      obtain ⟨t, ht, k3, k4⟩ := (h x).2 ⟨s, by simp [hs], k1, k2⟩
      rcases List.mem_cons.1 ht with e | e
      · subst e; omega
      · exact ⟨t, e, k3, k4⟩

/-- the document's way: a cell behind the last run makes it longer, or is a new one -/
def joinX (o : List S2) (x : Int) : List S2 :=
  match o.getLast? with
  | some a => if a.2 = x then o.dropLast ++ [(a.1, x + 1)] else o ++ [(x, x + 1)]
  | none => [(x, x + 1)]
def runRow (f : Int → Bool) : Nat → List S2
  | 0 => []
  | n + 1 => if f n = true then joinX (runRow f n) n else runRow f n
theorem joinX_in {o : List S2} {a : S2} {x : Int} (h : a.2 = x) : joinX (o ++ [a]) x = o ++ [(a.1, x + 1)] := by simp [joinX, h]
theorem joinX_out {o : List S2} {a : S2} {x : Int} (h : a.2 ≠ x) : joinX (o ++ [a]) x = o ++ [a] ++ [(x, x + 1)] := by simp [joinX, h]
theorem runRow_spec (f : Int → Bool) : ∀ n : Nat, Sep (runRow f n) ∧ (∀ s, s ∈ runRow f n → 0 ≤ s.1 ∧ s.2 ≤ n) ∧ ∀ x : Int, inS x (runRow f n) ↔ 0 ≤ x ∧ x < n ∧ f x = true := by
  intro n
  induction n with
  | zero => exact ⟨⟨List.Pairwise.nil, fun s hs => by simp [runRow] at hs⟩, fun s hs => by simp [runRow] at hs, fun x => by simp [runRow, inS]; omega⟩
  | succ n ih =>
    obtain ⟨h1, h2, h3⟩ := ih
    simp only [runRow]
    by_cases hf : f n = true
    · rw [if_pos hf]
      have hx : ∀ x : Int, (0 ≤ x ∧ x < ((n + 1 : Nat) : Int) ∧ f x = true) ↔ (inS x (runRow f n) ∨ x = n) := fun x => by
        rw [h3 x]
        constructor
        · rintro ⟨a, b, c⟩
          by_cases e : x = n
          · exact .inr e
          · exact .inl ⟨a, by omega, c⟩
        · rintro (⟨a, b, c⟩ | e)
          · exact ⟨a, by omega, c⟩
          · subst e; exact ⟨by omega, by omega, hf⟩
      simp only [hx]
      clear hx h3
      rcases List.eq_nil_or_concat (runRow f n) with e | ⟨o, a, e⟩
      · rw [e]
        refine ⟨⟨by simp [joinX], fun s hs => ?_⟩, fun s hs => ?_, fun x => ?_⟩
        · simp [joinX] at hs; subst hs; simp only; omega
        · simp [joinX] at hs; subst hs; simp only; omega
        · simp [joinX, inS]; omega
      · rw [List.concat_eq_append] at e
        rw [e] at h1 h2 ⊢
        have ha := h2 a (by simp)
        have haa := h1.2 a (by simp)
        have hp := List.pairwise_append.1 h1.1
        by_cases hj : a.2 = n
        · rw [joinX_in hj]
          refine ⟨⟨?_, fun s hs => ?_⟩, fun s hs => ?_, fun x => ?_⟩
          · rw [List.pairwise_append]
            refine ⟨hp.1, by simp, fun s hs t ht => ?_⟩
            simp at ht; subst ht
            exact hp.2.2 s hs a (by simp)
          · rcases List.mem_append.1 hs with hs | hs
            · exact h1.2 s (by simp [hs])
            · simp at hs; subst hs; simp only; omega
          · rcases List.mem_append.1 hs with hs | hs
            · have := h2 s (by simp [hs]); omega
            · simp at hs; subst hs; simp only; omega
          · rw [inS_append, inS_append, inS_one, inS_one]
            simp only
            constructor
            · rintro (h | h)
              · exact .inl (.inl h)
              · by_cases e2 : x = n
                · exact .inr e2
                · left; right; omega
            · rintro ((h | h) | h)
              · exact .inl h
              · right; omega
              · right; omega
        · rw [joinX_out hj]
          refine ⟨⟨?_, fun s hs => ?_⟩, fun s hs => ?_, fun x => ?_⟩
          · rw [List.pairwise_append]
            refine ⟨h1.1, by simp, fun s hs t ht => ?_⟩
            simp at ht; subst ht
            simp only
            rcases List.mem_append.1 hs with hs | hs
            · have := hp.2.2 s hs a (by simp); omega
            · simp at hs; subst hs; omega
          · rcases List.mem_append.1 hs with hs | hs
            · exact h1.2 s hs
            · simp at hs; subst hs; simp only; omega
          · rcases List.mem_append.1 hs with hs | hs
            · have := h2 s hs; omega
            · simp at hs; subst hs; simp only; omega
          · rw [inS_append, inS_one]
            simp only
            constructor
            · rintro (h | h)
              · exact .inl h
              · right; omega
            · rintro (h | h)
              · exact .inl h
              · right; omega
    · rw [if_neg hf]
      refine ⟨h1, fun s hs => by have := h2 s hs; omega, fun x => ?_⟩
      rw [h3 x]
      constructor
      · rintro ⟨a, b, c⟩; exact ⟨a, by omega, c⟩
      · rintro ⟨a, b, c⟩
        refine ⟨a, ?_, c⟩
        rcases Int.lt_or_le x n with h | h
        · exact h
        · have e : x = n := by omega
          subst e
          exact absurd c hf

/-- the document's runs of a set of cells -/
def refR (P : Int → Int → Bool) (W H : Nat) : List R3 := rowsR (fun y => runRow (fun x => P x y) W) H
theorem rowsR_congr {ms ns : Nat → List S2} : ∀ {n : Nat}, (∀ y, y < n → ms y = ns y) → rowsR ms n = rowsR ns n
  | 0, _ => by simp [rowsR]
  | n + 1, h => by rw [rowsR_succ, rowsR_succ, rowsR_congr (fun y hy => h y (by omega)), h n (by omega)]
theorem rowsR_cut {ms : Nat → List S2} {H : Nat} : ∀ {n : Nat}, H ≤ n → (∀ y, H ≤ y → y < n → ms y = []) → rowsR ms n = rowsR ms H
  | 0, h, _ => by have : H = 0 := by omega
                  subst this; rfl
  | n + 1, h, he => by
    by_cases e : H = n + 1
    · subst e; rfl
    · rw [rowsR_succ, he n (by omega) (by omega), rowsR_cut (n := n) (by omega) (fun y h1 h2 => he y h1 (by omega))]
      simp [rowR]
theorem reg_eq {f : Nat → List S2} {R : List R3} {P : Int → Int → Bool} {W H : Nat} (hH : H ≤ 256) (h : RegOf f R) (hf : ∀ i s, s ∈ f i → i < H ∧ 0 ≤ s.1 ∧ s.1 < s.2 ∧ s.2 ≤ (W : Int))
    (hP : ∀ i, i < H → ∀ x : Int, 0 ≤ x → x < W → (inS x (f i) ↔ P x i = true)) : R = refR P W H := by
  obtain ⟨ms, hm, rfl⟩ := h
  have hE : ∀ y, H ≤ y → y < 256 → ms y = [] := fun y h1 h2 => by
    have h3 := (hm y h2).length
    have h4 : f y = [] := by
      rcases List.eq_nil_or_concat (f y) with e | ⟨o, s, e⟩
      · exact e
      · have := hf y s (by rw [e]; simp)
        omega
    rw [h4] at h3
    exact List.eq_nil_of_length_eq_zero (by simpa using h3)
  rw [rowsR_cut hH hE]
  refine rowsR_congr fun y hy => ?_
  obtain ⟨l', hp, hs, e⟩ := hm y (by omega)
  obtain ⟨r1, r2, r3⟩ := runRow_spec (fun x => P x y) W
  have hms := hm y (by omega)
  have hSep : Sep (ms y) := by rw [e]; exact (mergeL_spec hs (fun s hx => (hf y s (hp.mem_iff.1 hx)).2.2.1)).1
  refine sep_ext hSep r1 fun x => ?_
  rw [hms.has (fun s hx => (hf y s hx).2.2.1) x, r3 x]
  constructor
  · intro hx
    have hx' := hx
    obtain ⟨s, hsm, k1, k2⟩ := hx
    have := hf y s hsm
    exact ⟨by omega, by omega, (hP y hy x (by omega) (by omega)).1 hx'⟩
  · rintro ⟨k1, k2, k3⟩
    exact (hP y hy x k1 k2).2 k3
end Go.Proofs.Ytnbdnnbeiohmgaa
/- GridLong: what Either, Both and Without come to are the document's runs of the sets. -/
namespace Go.Proofs.Ytnbdnnbeiohmgaa
open Go.RowKit

theorem reg_eq' {f : Nat → List S2} {R : List R3} {P : Int → Int → Bool} {W H : Int} (hW : 1 ≤ W ∧ W ≤ 256) (hH : 1 ≤ H ∧ H ≤ 256) (h : RegOf f R) (hf : ∀ i s, s ∈ f i → (i : Int) < H ∧ 0 ≤ s.1 ∧ s.1 < s.2 ∧ s.2 ≤ W)
    (hP : ∀ i : Nat, (i : Int) < H → ∀ x : Int, 0 ≤ x → x < W → (inS x (f i) ↔ P x i = true)) : R = refR P W.toNat H.toNat := by
  have e : ((W.toNat : Nat) : Int) = W := by omega
  refine reg_eq (by omega) h (fun i s hs => ?_) (fun i hi x h0 h1 => ?_)
  · have := hf i s hs
    rw [e]
    omega
  · rw [e] at h1
    exact hP i (by omega) x h0 h1

end Go.Proofs.Ytnbdnnbeiohmgaa
