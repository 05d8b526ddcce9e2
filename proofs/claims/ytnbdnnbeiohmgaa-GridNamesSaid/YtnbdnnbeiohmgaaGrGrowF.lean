/- The table that Grow lays: plain facts. -/
import Derived.Test.YtnbdnnbeiohmgaaGrB
namespace Go.Proofs.Ytnbdnnbeiohmgaa
open Go.RowKit

def addRows (W H a t : Int) : Nat → Nat → (Nat → List S2) → (Nat → List S2)
  | 0, _, f => f
  | n + 1, y, f => addRows W H a t n (y + 1) (addF W H y a t f)
theorem addF_len (W H y a t : Int) (f : Nat → List S2) (i : Nat) : (addF W H y a t f i).length ≤ (f i).length + 1 := by
  unfold addF
  split
  · by_cases e : i = y.toNat
    · subst e; rw [upd_same]; simp
    · rw [upd_other _ _ e]; omega
  · omega
theorem addF_other {W H y a t : Int} {f : Nat → List S2} {i : Nat} (h : i ≠ y.toNat) : addF W H y a t f i = f i := by
  unfold addF
  split
  · rw [upd_other _ _ h]
  · rfl
theorem addF_mem {W H y a t : Int} {f : Nat → List S2} {i : Nat} {s : S2} (h : s ∈ addF W H y a t f i) : s ∈ f i ∨ ((i : Int) < H ∧ 0 ≤ s.1 ∧ s.1 < s.2 ∧ s.2 ≤ W) := by
  by_cases k : addOK W H y a t = true
  · rw [addF_yes k] at h
    by_cases e : i = y.toNat
    · subst e
      rw [upd_same] at h
      rcases List.mem_append.1 h with h | h
      · exact .inl h
      · simp at h
        subst h
        simp only [addOK, inB, Bool.and_eq_true, decide_eq_true_eq] at k
        right
        simp only
        omega
    · rw [upd_other _ _ e] at h
      exact .inl h
  · rw [addF_no (by simpa using k)] at h
    exact .inl h
theorem addF_keeps {W H y a t : Int} {f : Nat → List S2} {i : Nat} {x : Int} (h : inS x (f i)) : inS x (addF W H y a t f i) := by
  unfold addF
  split
  · by_cases e : i = y.toNat
    · subst e; rw [upd_same]; exact inS_append.2 (.inl h)
    · rw [upd_other _ _ e]; exact h
  · exact h
theorem addF_has {W H a t x : Int} {f : Nat → List S2} {i : Nat} (hi : (i : Int) < H) (hx : 0 ≤ x ∧ x < W) (h : a ≤ x ∧ x < t) : inS x (addF W H i a t f i) := by
  rw [addF_yes (by simp [addOK, inB]; omega), Int.toNat_natCast, upd_same]
  exact inS_append.2 (.inr (inS_one.2 (by simp only; omega)))

theorem addRows_len (W H a t : Int) : ∀ (n y : Nat) (f : Nat → List S2) (i : Nat), (addRows W H a t n y f i).length ≤ (f i).length + (if y ≤ i then 1 else 0) := by
  intro n
  induction n with
  | zero => intro y f i; simp [addRows]
  | succ n ih =>
    intro y f i
    have h1 := ih (y + 1) (addF W H y a t f) i
    simp only [addRows]
    by_cases e : i = y
    · subst e
      have h2 := addF_len W H i a t f i
      rw [if_neg (by omega)] at h1
      rw [if_pos (by omega)]
      omega
    · rw [addF_other (by simpa using e)] at h1
      by_cases hy : y ≤ i
      · rw [if_pos (by omega)] at h1
        rw [if_pos hy]
        omega
      · rw [if_neg (by omega)] at h1
        rw [if_neg hy]
        omega
theorem addRows_mem {W H a t : Int} : ∀ (n y : Nat) (f : Nat → List S2) (i : Nat) (s : S2), s ∈ addRows W H a t n y f i → s ∈ f i ∨ ((i : Int) < H ∧ 0 ≤ s.1 ∧ s.1 < s.2 ∧ s.2 ≤ W) := by
  intro n
  induction n with
  | zero => intro y f i s h; exact .inl h
  | succ n ih =>
    intro y f i s h
    rcases ih (y + 1) _ i s h with h | h
    · exact addF_mem h
    · exact .inr h
theorem addRows_keeps {W H a t : Int} : ∀ (n y : Nat) (f : Nat → List S2) (i : Nat) (x : Int), inS x (f i) → inS x (addRows W H a t n y f i) := by
  intro n
  induction n with
  | zero => intro y f i x h; exact h
  | succ n ih => intro y f i x h; exact ih (y + 1) _ i x (addF_keeps h)
theorem addRows_has {W H a t x : Int} : ∀ (n y : Nat) (f : Nat → List S2) (i : Nat), y ≤ i → i < y + n → (i : Int) < H → 0 ≤ x ∧ x < W → a ≤ x ∧ x < t → inS x (addRows W H a t n y f i) := by
  intro n
  induction n with
  | zero => intro y f i h1 h2; omega
  | succ n ih =>
    intro y f i h1 h2 hH hx h
    by_cases e : i = y
    · subst e
      exact addRows_keeps n _ _ _ _ (addF_has hH hx h)
    · exact ih (y + 1) _ i (by omega) (by omega) hH hx h

/-- how a run grows: so many cells to the west, the east, the south, the north -/
structure Lead where
  we : Int
  ea : Int
  so : Int
  no : Int
def growOne (W H : Int) (L : Lead) (r : R3) (f : Nat → List S2) : Nat → List S2 :=
  addRows W H (wrap64 (r.2.1 + L.we)) (wrap64 (r.2.2 + L.ea)) (min (r.1 + L.no) (H - 1) + 1 - max 0 (r.1 + L.so)).toNat (max 0 (r.1 + L.so)).toNat f
def growF (W H : Int) (L : Lead) (l : List R3) : Nat → List S2 := l.foldl (fun f r => growOne W H L r f) fun _ => []
theorem growF_snoc (W H : Int) (L : Lead) (l : List R3) (r : R3) : growF W H L (l ++ [r]) = growOne W H L r (growF W H L l) := by simp [growF]
theorem growF_take {W H : Int} {L : Lead} {l : List R3} {k : Nat} {r : R3} (h : l[k]? = some r) : growF W H L (l.take (k + 1)) = growOne W H L r (growF W H L (l.take k)) := by
  rw [List.take_add_one, h]
  exact growF_snoc _ _ _ _ _
theorem growF_len (W H : Int) (L : Lead) (l : List R3) (i : Nat) : (growF W H L l i).length ≤ l.length := by
  have key : ∀ (l : List R3) (f : Nat → List S2), (l.foldl (fun f r => growOne W H L r f) f i).length ≤ (f i).length + l.length := by
    intro l
    induction l with
    | nil => intro f; simp
    | cons r l ih =>
      intro f
      have h1 := ih (growOne W H L r f)
      have h2 : (growOne W H L r f i).length ≤ (f i).length + 1 := by
        have := addRows_len W H (wrap64 (r.2.1 + L.we)) (wrap64 (r.2.2 + L.ea)) (min (r.1 + L.no) (H - 1) + 1 - max 0 (r.1 + L.so)).toNat (max 0 (r.1 + L.so)).toNat f i
        unfold growOne
        split at this <;> omega
      simp only [List.foldl_cons, List.length_cons]
      omega
  have := key l (fun _ => [])
  simpa [growF] using this
theorem growF_mem {W H : Int} {L : Lead} {l : List R3} {i : Nat} {s : S2} (h : s ∈ growF W H L l i) : (i : Int) < H ∧ 0 ≤ s.1 ∧ s.1 < s.2 ∧ s.2 ≤ W := by
  have key : ∀ (l : List R3) (f : Nat → List S2), s ∈ l.foldl (fun f r => growOne W H L r f) f i → s ∈ f i ∨ ((i : Int) < H ∧ 0 ≤ s.1 ∧ s.1 < s.2 ∧ s.2 ≤ W) := by
    intro l
    induction l with
    | nil => intro f h; exact .inl h
    | cons r l ih =>
      intro f h
      rcases ih _ h with h | h
      · exact addRows_mem _ _ _ _ _ h
      · exact .inr h
  rcases key l _ h with h | h
  · simp at h
  · exact h
theorem growF_has {W H : Int} {L : Lead} {l : List R3} {r : R3} {i : Nat} {x : Int} (hr : r ∈ l) (hi : (i : Int) < H) (hy : r.1 + L.so ≤ i ∧ (i : Int) ≤ r.1 + L.no) (hx : 0 ≤ x ∧ x < W) (h : wrap64 (r.2.1 + L.we) ≤ x ∧ x < wrap64 (r.2.2 + L.ea)) : inS x (growF W H L l i) := by
  have keep : ∀ (l : List R3) (f : Nat → List S2), inS x (f i) → inS x (l.foldl (fun f r => growOne W H L r f) f i) := by
    intro l
    induction l with
    | nil => intro f h; exact h
    | cons r l ih => intro f h; exact ih _ (addRows_keeps _ _ _ _ _ h)
  have key : ∀ (l : List R3) (f : Nat → List S2), r ∈ l → inS x (l.foldl (fun f r => growOne W H L r f) f i) := by
    intro l
    induction l with
    | nil => intro f h; simp at h
    | cons q l ih =>
      intro f hm
      rcases List.mem_cons.1 hm with e | e
      · subst e
        refine keep l _ ?_
        unfold growOne
        exact addRows_has _ _ _ _ (by omega) (by omega) hi hx h
      · exact ih _ e
  exact key l _ hr

def offR (W H : Int) (L : Lead) (r : R3) : Bool := decide (wrap64 (r.2.1 + L.we) < 0) || decide (W < wrap64 (r.2.2 + L.ea)) || decide (r.1 + L.so < 0) || decide (H ≤ r.1 + L.no)
def offL (W H : Int) (L : Lead) (l : List R3) : Bool := l.any (offR W H L)
theorem offL_take {W H : Int} {L : Lead} {l : List R3} {k : Nat} {r : R3} (h : l[k]? = some r) : offL W H L (l.take (k + 1)) = (offL W H L (l.take k) || offR W H L r) := by
  rw [List.take_add_one, h]
  simp [offL]
end Go.Proofs.Ytnbdnnbeiohmgaa
