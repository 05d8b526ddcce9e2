/- The picture that centres share: plain facts, no program in sight. -/
import Derived.Lib.Bytealg
import Derived.WalkKit
namespace Go.Proofs.Ytngigogaiheckaa

/-- a statement -/
structure Sd where
  c : Int
  n : Int
  key : ByteArray
  val : ByteArray
  time : Int
  trust : Int
  back : Int
deriving DecidableEq

/-- two statements of one centre with one number -/
def sameP (a b : Sd) : Prop := a.c = b.c ∧ a.n = b.n
/-- the statement of a centre with a number -/
def atP (l : List Sd) (c n : Int) : Option Sd := l.find? fun s => decide (s.c = c) && decide (s.n = n)
def hasP (l : List Sd) (c n : Int) : Bool := (atP l c n).isSome
theorem hasP_iff {l : List Sd} {c n : Int} : hasP l c n = true ↔ ∃ s, s ∈ l ∧ s.c = c ∧ s.n = n := by
  unfold hasP atP
  rw [List.find?_isSome]
  constructor
  · rintro ⟨s, hs, h⟩
    simp at h
    exact ⟨s, hs, h.1, h.2⟩
  · rintro ⟨s, hs, h1, h2⟩
    exact ⟨s, hs, by simp [h1, h2]⟩
theorem atP_some {l : List Sd} {c n : Int} {s : Sd} (h : atP l c n = some s) : s ∈ l ∧ s.c = c ∧ s.n = n := by
  unfold atP at h
  have h1 := List.mem_of_find?_eq_some h
  have h2 := List.find?_some h
  simp at h2
  exact ⟨h1, h2.1, h2.2⟩
/-- no two statements with one place -/
def Uq (l : List Sd) : Prop := ∀ a, a ∈ l → ∀ b, b ∈ l → sameP a b → a = b
theorem atP_mem {l : List Sd} (hu : Uq l) {s : Sd} (hs : s ∈ l) : atP l s.c s.n = some s := by
  have h : hasP l s.c s.n = true := hasP_iff.2 ⟨s, hs, rfl, rfl⟩
  unfold hasP at h
  obtain ⟨t, ht⟩ := Option.isSome_iff_exists.1 h
  obtain ⟨h1, h2, h3⟩ := atP_some ht
  rw [ht, hu t h1 s hs ⟨h2, h3⟩]
theorem atP_append {l m : List Sd} {c n : Int} : atP (l ++ m) c n = (atP l c n).or (atP m c n) := by simp [atP, List.find?_append]
theorem atP_one {s : Sd} {c n : Int} : atP [s] c n = if s.c = c ∧ s.n = n then some s else none := by
  unfold atP
  by_cases h : s.c = c ∧ s.n = n
  · rw [if_pos h]
    simp [List.find?, h.1, h.2]
  · rw [if_neg h]
    simp only [List.find?]
    split
    · rename_i h2
      simp at h2
      exact absurd h2 h
    · rfl

/-- the greatest number up to which all hold, from v on -/
def climb (f : Nat → Bool) : Nat → Nat → Nat
  | 0, v => v
  | k + 1, v => if f (v + 1) then climb f k (v + 1) else v
/-- all hold from 1 to v, and not at the next one -/
def IsKn (f : Nat → Bool) (v : Nat) : Prop := (∀ i, 1 ≤ i → i ≤ v → f i = true) ∧ f (v + 1) = false
theorem IsKn.uniq {f : Nat → Bool} {v u : Nat} (h : IsKn f v) (k : IsKn f u) : v = u := by
  rcases Nat.lt_trichotomy v u with h1 | h1 | h1
  · have := k.1 (v + 1) (by omega) (by omega)
    rw [h.2] at this
    cases this
  · exact h1
  · have := h.1 (u + 1) (by omega) (by omega)
    rw [k.2] at this
    cases this
theorem climb_is {f : Nat → Bool} : ∀ (k v : Nat), (∀ i, 1 ≤ i → i ≤ v → f i = true) → (∀ i, v + k < i → f i = false) → IsKn f (climb f k v)
  | 0, v, h1, h2 => ⟨h1, h2 _ (by show v + 0 < v + 1; omega)⟩
  | k + 1, v, h1, h2 => by
    unfold climb
    by_cases h : f (v + 1) = true
    · rw [if_pos h]
      refine climb_is k (v + 1) (fun i a b => ?_) (fun i a => h2 i (by omega))
      by_cases e : i = v + 1
      · rw [e]; exact h
      · exact h1 i a (by omega)
    · rw [if_neg h]
      exact ⟨h1, by simpa using h⟩
/-- what is known of a centre -/
def kn (l : List Sd) (c : Int) : Nat := climb (fun i => hasP l c i) 1000 0
/-- numbers are from 1 to 1000 -/
def Nums (l : List Sd) : Prop := ∀ s, s ∈ l → (1 ≤ s.c ∧ s.c ≤ 8) ∧ 1 ≤ s.n ∧ s.n ≤ 1000
theorem Nums.sub {l m : List Sd} (h : Nums m) (hs : ∀ s, s ∈ l → s ∈ m) : Nums l := fun s hm => h s (hs s hm)
theorem kn_is {l : List Sd} (h : Nums l) (c : Int) : IsKn (fun i => hasP l c i) (kn l c) := by
  refine climb_is 1000 0 (fun i a b => by omega) fun i hi => ?_
  cases e : hasP l c i with
  | false => rfl
  | true =>
    obtain ⟨s, hs, -, h3⟩ := hasP_iff.1 e
    have := (h s hs).2
    omega
theorem kn_eq {l : List Sd} (h : Nums l) {c : Int} {v : Nat} (hv : IsKn (fun i => hasP l c i) v) : kn l c = v := (kn_is h c).uniq hv
theorem kn_le {l : List Sd} (h : Nums l) (c : Int) : kn l c ≤ 1000 := by
  rcases Nat.eq_zero_or_pos (kn l c) with h0 | h0
  · omega
  · have := (kn_is h c).1 (kn l c) h0 (Nat.le_refl _)
    obtain ⟨s, hs, -, h3⟩ := hasP_iff.1 this
    have := (h s hs).2
    omega
theorem kn_mono {l m : List Sd} (hl : Nums l) (hm : Nums m) (h : ∀ s, s ∈ l → s ∈ m) (c : Int) : kn l c ≤ kn m c := by
  have h1 := kn_is hl c
  have h2 := kn_is hm c
  rcases Nat.lt_or_ge (kn m c) (kn l c) with h3 | h3
  · have h4 := h1.1 (kn m c + 1) (by omega) (by omega)
    obtain ⟨s, hs, a, b⟩ := hasP_iff.1 h4
    have h5 : hasP m c ((kn m c + 1 : Nat) : Int) = true := hasP_iff.2 ⟨s, h s hs, a, b⟩
    rw [show hasP m c ((kn m c + 1 : Nat) : Int) = false from h2.2] at h5
    cases h5
  · exact h3
theorem kn_ext {l m : List Sd} (hl : Nums l) (hm : Nums m) {c : Int} (h : ∀ n, hasP l c n = hasP m c n) : kn l c = kn m c := by
  refine kn_eq hl ?_
  have := kn_is hm c
  exact ⟨fun i a b => (h i).trans (this.1 i a b), (h _).trans this.2⟩
theorem kn_nil (c : Int) : kn [] c = 0 := kn_eq (fun s hs => by simp at hs) ⟨fun i a b => by omega, rfl⟩
theorem hasP_other {l : List Sd} {s : Sd} {c n : Int} (h : s.c ≠ c ∨ s.n ≠ n) : hasP (l ++ [s]) c n = hasP l c n := by
  unfold hasP
  rw [atP_append, atP_one, if_neg (by rintro ⟨h1, h2⟩; rcases h with h | h <;> exact h (by assumption))]
  simp
theorem kn_other {l : List Sd} (hl : Nums l) {s : Sd} (hs : Nums [s]) {c : Int} (h : s.c ≠ c) : kn (l ++ [s]) c = kn l c :=
  kn_ext (fun t ht => (List.mem_append.1 ht).elim (hl t) (hs t)) hl fun _ => hasP_other (.inl h)
theorem kn_has {l : List Sd} (h : Nums l) {c : Int} {n : Nat} (h1 : 1 ≤ n) (h2 : n ≤ kn l c) : ∃ s, atP l c n = some s := by
  have := (kn_is h c).1 n h1 h2
  exact Option.isSome_iff_exists.1 this
theorem kn_not {l : List Sd} (h : Nums l) (c : Int) : atP l c ((kn l c + 1 : Nat) : Int) = none := by
  have := (kn_is h c).2
  simpa [hasP] using this

/-! ### what is taken -/
/-- those of a list that are not there yet -/
def freshOf (arr : List Sd) : List Sd → List Sd → List Sd
  | fr, [] => fr
  | fr, s :: l => if hasP arr s.c s.n || hasP fr s.c s.n then freshOf arr fr l else freshOf arr (fr ++ [s]) l
def fresh (arr l : List Sd) : List Sd := freshOf arr [] l
theorem freshOf_snoc (arr : List Sd) (s : Sd) : ∀ (l fr : List Sd), freshOf arr fr (l ++ [s]) = if hasP arr s.c s.n || hasP (freshOf arr fr l) s.c s.n then freshOf arr fr l else freshOf arr fr l ++ [s]
  | [], fr => by simp only [List.nil_append, freshOf]; rfl
  | t :: l, fr => by
    simp only [List.cons_append, freshOf]
    split
    · exact freshOf_snoc arr s l fr
    · exact freshOf_snoc arr s l _
theorem fresh_snoc (arr l : List Sd) (s : Sd) : fresh arr (l ++ [s]) = if hasP arr s.c s.n || hasP (fresh arr l) s.c s.n then fresh arr l else fresh arr l ++ [s] := freshOf_snoc arr s l []
theorem fresh_nil (arr : List Sd) : fresh arr [] = [] := rfl
theorem fresh_take {arr l : List Sd} {k : Nat} {s : Sd} (h : l[k]? = some s) : fresh arr (l.take (k + 1)) = if hasP arr s.c s.n || hasP (fresh arr (l.take k)) s.c s.n then fresh arr (l.take k) else fresh arr (l.take k) ++ [s] := by
  rw [List.take_add_one, h]
  exact fresh_snoc arr _ s
theorem snoc_ind {P : List Sd → Prop} (h0 : P []) (h1 : ∀ l s, P l → P (l ++ [s])) : ∀ l, P l := by
  intro l
  induction hn : l.length generalizing l with
  | zero => rw [List.eq_nil_of_length_eq_zero hn]; exact h0
  | succ n ih =>
    rcases List.eq_nil_or_concat l with rfl | ⟨m, s, rfl⟩
    · simp at hn
    · rw [List.concat_eq_append] at hn ⊢
      exact h1 m s (ih m (by simpa using hn))
theorem fresh_len (arr : List Sd) : ∀ l, (fresh arr l).length ≤ l.length := by
  refine snoc_ind (by simp [fresh_nil]) fun l s h => ?_
  rw [fresh_snoc]
  split <;> simp <;> omega
theorem fresh_sub (arr : List Sd) : ∀ l, ∀ s, s ∈ fresh arr l → s ∈ l := by
  refine snoc_ind (by simp [fresh_nil]) fun l s h t ht => ?_
  rw [fresh_snoc] at ht
  split at ht
  · exact List.mem_append.2 (.inl (h t ht))
  · rcases List.mem_append.1 ht with h1 | h1
    · exact List.mem_append.2 (.inl (h t h1))
    · exact List.mem_append.2 (.inr h1)
/-- all that is taken is there -/
theorem fresh_all (arr : List Sd) : ∀ l, ∀ s, s ∈ l → hasP (arr ++ fresh arr l) s.c s.n = true := by
  refine snoc_ind (fun s hs => by simp at hs) fun l s h t ht => ?_
  rw [fresh_snoc]
  rcases List.mem_append.1 ht with h1 | h1
  · have h2 := h t h1
    split
    · exact h2
    · obtain ⟨u, hu, a, b⟩ := hasP_iff.1 h2
      exact hasP_iff.2 ⟨u, by rw [← List.append_assoc]; exact List.mem_append.2 (.inl hu), a, b⟩
  · simp at h1
    subst h1
    split
    · rename_i h3
      rw [Bool.or_eq_true] at h3
      rcases h3 with h3 | h3
      · obtain ⟨u, hu, a, b⟩ := hasP_iff.1 h3
        exact hasP_iff.2 ⟨u, List.mem_append.2 (.inl hu), a, b⟩
      · obtain ⟨u, hu, a, b⟩ := hasP_iff.1 h3
        exact hasP_iff.2 ⟨u, List.mem_append.2 (.inr hu), a, b⟩
    · exact hasP_iff.2 ⟨t, by simp, rfl, rfl⟩
/-- what is fresh is of places that are not there, no two of one place -/
theorem fresh_new (arr : List Sd) : ∀ l, (∀ s, s ∈ fresh arr l → hasP arr s.c s.n = false) ∧ (fresh arr l).Pairwise (fun a b => ¬ sameP a b) := by
  refine snoc_ind ⟨fun s hs => by simp [fresh_nil] at hs, by simp [fresh_nil]⟩ fun l s h => ?_
  rw [fresh_snoc]
  split
  · exact h
  · rename_i h3
    simp only [Bool.or_eq_true, not_or, Bool.not_eq_true] at h3
    refine ⟨fun t ht => ?_, List.pairwise_append.2 ⟨h.2, List.pairwise_singleton _ _, fun a ha b hb e => ?_⟩⟩
    · rcases List.mem_append.1 ht with h1 | h1
      · exact h.1 t h1
      · simp at h1
        subst h1
        exact h3.1
    · simp at hb
      subst hb
      have h4 : hasP (fresh arr l) b.c b.n = true := hasP_iff.2 ⟨a, ha, e.1, e.2⟩
      rw [h3.2] at h4
      cases h4
/-- what is there already is not fresh -/
theorem fresh_none {arr l : List Sd} (h : ∀ s, s ∈ l → hasP arr s.c s.n = true) : fresh arr l = [] := by
  revert h
  refine snoc_ind (P := fun l => (∀ s, s ∈ l → hasP arr s.c s.n = true) → fresh arr l = []) (fun _ => rfl) (fun l s ih h => ?_) l
  rw [fresh_snoc, h s (by simp), Bool.true_or, if_pos rfl]
  exact ih fun t ht => h t (by simp [ht])

/-! ### the order of strings -/
theorem cb_self : ∀ a : List UInt8, Lib.compareBytes a a = 0
  | [] => rfl
  | x :: a => by
    unfold Lib.compareBytes
    rw [if_neg (UInt8.lt_irrefl x), if_neg (UInt8.lt_irrefl x)]
    exact cb_self a
theorem cb_neg : ∀ a b : List UInt8, Lib.compareBytes b a = -Lib.compareBytes a b
  | [], [] => rfl
  | [], _ :: _ => rfl
  | _ :: _, [] => rfl
  | x :: a, y :: b => by
    unfold Lib.compareBytes
    by_cases h1 : x < y
    · have h2 : ¬ y < x := UInt8.lt_asymm h1
      simp [h1, h2]
    · by_cases h2 : y < x
      · simp [h1, h2]
      · simp only [h1, h2, if_false]
        exact cb_neg a b
theorem cb_zero : ∀ {a b : List UInt8}, Lib.compareBytes a b = 0 → a = b
  | [], [], _ => rfl
  | [], _ :: _, h => by simp [Lib.compareBytes] at h
  | _ :: _, [], h => by simp [Lib.compareBytes] at h
  | x :: a, y :: b, h => by
    unfold Lib.compareBytes at h
    split at h
    · cases h
    · split at h
      · cases h
      · rename_i h1 h2
        have e : x = y := UInt8.le_antisymm (UInt8.not_lt.1 h2) (UInt8.not_lt.1 h1)
        rw [e, cb_zero h]
theorem cb_trans : ∀ {a b c : List UInt8}, Lib.compareBytes a b < 0 → Lib.compareBytes b c < 0 → Lib.compareBytes a c < 0
  | [], [], _, h, _ => by simp [Lib.compareBytes] at h
  | _ :: _, [], _, h, _ => by simp [Lib.compareBytes] at h
  | [], _ :: _, [], _, h => by simp [Lib.compareBytes] at h
  | [], _ :: _, _ :: _, _, _ => by simp [Lib.compareBytes]
  | _ :: _, _ :: _, [], _, h => by simp [Lib.compareBytes] at h
  | x :: a, y :: b, z :: c, h1, h2 => by
    unfold Lib.compareBytes at h1 h2 ⊢
    by_cases a1 : x < y
    · by_cases a2 : y < z
      · rw [if_pos (UInt8.lt_trans a1 a2)]; omega
      · rw [if_neg a2] at h2
        by_cases a3 : z < y
        · rw [if_pos a3] at h2; omega
        · have e : y = z := UInt8.le_antisymm (UInt8.not_lt.1 a3) (UInt8.not_lt.1 a2)
          subst e
          rw [if_pos a1]; omega
    · rw [if_neg a1] at h1
      by_cases a3 : y < x
      · rw [if_pos a3] at h1; omega
      · rw [if_neg a3] at h1
        have e : x = y := UInt8.le_antisymm (UInt8.not_lt.1 a3) (UInt8.not_lt.1 a1)
        subst e
        by_cases a2 : x < z
        · rw [if_pos a2]; omega
        · rw [if_neg a2] at h2 ⊢
          by_cases a4 : z < x
          · rw [if_pos a4] at h2; omega
          · rw [if_neg a4] at h2 ⊢
            exact cb_trans h1 h2

/-! ### statements up to a vector; what is shown -/
def noSd : Sd := ⟨0, 0, ByteArray.empty, ByteArray.empty, 0, 0, 0⟩
/-- the statement that a map gives -/
def getP (l : List Sd) (c n : Int) : Sd := (atP l c n).getD noSd
/-- the statements of a centre behind one number, so many -/
def rowP (l : List Sd) (c : Int) (a : Nat) (k : Nat) : List Sd := (List.range k).map fun (j : Nat) => getP l c ((a + j + 1 : Nat) : Int)
theorem rowP_succ (l : List Sd) (c : Int) (a k : Nat) : rowP l c a (k + 1) = rowP l c a k ++ [getP l c ((a + k + 1 : Nat) : Int)] := by simp [rowP, List.range_succ]
theorem rowP_len (l : List Sd) (c : Int) (a k : Nat) : (rowP l c a k).length = k := by simp [rowP]
/-- the statements behind a vector, up to another one, of the first m centres -/
def betw (l : List Sd) (a b : Nat → Nat) : Nat → List Sd
  | 0 => []
  | m + 1 => betw l a b m ++ rowP l ((m + 1 : Nat) : Int) (a m) (b m - a m)
theorem betw_succ (l : List Sd) (a b : Nat → Nat) (m : Nat) : betw l a b (m + 1) = betw l a b m ++ rowP l ((m + 1 : Nat) : Int) (a m) (b m - a m) := rfl
theorem mem_rowP {l : List Sd} {c : Int} {a k : Nat} {s : Sd} : s ∈ rowP l c a k ↔ ∃ n : Nat, a < n ∧ n ≤ a + k ∧ s = getP l c n := by
  simp only [rowP, List.mem_map, List.mem_range]
  constructor
  · rintro ⟨j, hj, rfl⟩
    exact ⟨a + j + 1, by omega, by omega, rfl⟩
  · rintro ⟨n, h1, h2, rfl⟩
    exact ⟨n - a - 1, by omega, by rw [show a + (n - a - 1) + 1 = n by omega]⟩
theorem mem_betw {l : List Sd} {a b : Nat → Nat} {s : Sd} : ∀ {m : Nat}, s ∈ betw l a b m ↔ ∃ c n : Nat, c < m ∧ a c < n ∧ n ≤ b c ∧ s = getP l ((c + 1 : Nat) : Int) n
  | 0 => by simp [betw]
  | m + 1 => by
    rw [betw_succ, List.mem_append, mem_betw, mem_rowP]
    constructor
    · rintro (⟨c, n, h1, h2, h3, h4⟩ | ⟨n, h1, h2, h3⟩)
      · exact ⟨c, n, by omega, h2, h3, h4⟩
      · exact ⟨m, n, by omega, h1, by omega, h3⟩
    · rintro ⟨c, n, h1, h2, h3, h4⟩
      by_cases e : c = m
      · subst e
        exact .inr ⟨n, h2, by omega, h4⟩
      · exact .inl ⟨c, n, by omega, h2, h3, h4⟩
theorem betw_ext {l l' : List Sd} {a b : Nat → Nat} : ∀ {m : Nat}, (∀ c n : Nat, c < m → a c < n → n ≤ b c → getP l ((c + 1 : Nat) : Int) n = getP l' ((c + 1 : Nat) : Int) n) → betw l a b m = betw l' a b m
  | 0, _ => rfl
  | m + 1, h => by
    rw [betw_succ, betw_succ, betw_ext fun c n h1 h2 h3 => h c n (by omega) h2 h3]
    congr 1
    unfold rowP
    refine List.map_congr_left fun j hj => ?_
    have := List.mem_range.1 hj
    exact h m (a m + j + 1) (by omega) (by omega) (by omega)
theorem betw_len (l : List Sd) (a b : Nat → Nat) (B : Nat) : ∀ m, (∀ c, c < m → b c ≤ B) → (betw l a b m).length ≤ m * B
  | 0, _ => by simp [betw]
  | m + 1, h => by
    have h1 := betw_len l a b B m fun c hc => h c (by omega)
    have h2 := h m (by omega)
    rw [betw_succ, List.length_append, rowP_len, Nat.succ_mul]
    omega

/-- is a statement taken back by one of these? -/
def backed (L : List Sd) (s : Sd) : Bool := L.any fun t => decide (t.c = s.c) && decide (t.back = s.n)
/-- the statements that count -/
def live (L : List Sd) : List Sd := L.filter fun s => !(decide (s.key.size = 0) || backed L s)
/-- .. of a key -/
def grp (L : List Sd) (k : ByteArray) : List Sd := (live L).filter fun s => decide (s.key = k)
/-- which of two counts more: below 0: the first one -/
def cmpSd (a b : Sd) : Int :=
  if b.trust - a.trust ≠ 0 then b.trust - a.trust else if b.time - a.time ≠ 0 then b.time - a.time else if a.c - b.c ≠ 0 then a.c - b.c else b.n - a.n
/-- one of a list that counts most -/
def Best (l : List Sd) (m : Sd) : Prop := m ∈ l ∧ ∀ x, x ∈ l → cmpSd m x ≤ 0
theorem Best.uniq {l : List Sd} {m m' : Sd} (hu : Uq l) (h : Best l m) (h' : Best l m') : m = m' := by
  have h1 := h.2 m' h'.1
  have h2 := h'.2 m h.1
  refine hu m h.1 m' h'.1 ?_
  unfold cmpSd at h1 h2
  split at h1 <;> split at h2 <;> try omega
  split at h1 <;> split at h2 <;> try omega
  split at h1 <;> split at h2 <;> try omega
  exact ⟨by omega, by omega⟩
/-- the values of a list, each once -/
def once : List ByteArray → List ByteArray
  | [] => []
  | a :: l => if l.any (fun x => decide (x = a)) then once l else a :: once l
theorem any_eq {a : ByteArray} {l : List ByteArray} : l.any (fun x => decide (x = a)) = true ↔ a ∈ l := by simp
theorem mem_once {a : ByteArray} : ∀ {l : List ByteArray}, a ∈ once l ↔ a ∈ l
  | [] => Iff.rfl
  | b :: l => by
    rw [once]
    split
    · rename_i h
      rw [any_eq] at h
      rw [mem_once]
      constructor
      · exact fun h => List.mem_cons_of_mem _ h
      · intro h1
        rcases List.mem_cons.1 h1 with e | e
        · rw [e]; exact h
        · exact e
    · rw [List.mem_cons, mem_once, List.mem_cons]
theorem nodup_once : ∀ l : List ByteArray, (once l).Nodup
  | [] => List.nodup_nil
  | b :: l => by
    rw [once]
    split
    · exact nodup_once l
    · rename_i h
      rw [any_eq] at h
      exact List.nodup_cons.2 ⟨fun h1 => h (mem_once.1 h1), nodup_once l⟩
def valsOf (l : List Sd) : List ByteArray := once (l.map (·.val))
/-- what is shown of statements -/
structure Shows (L : List Sd) (out : List (Sd × Int)) : Prop where
  sorted : out.Pairwise fun a b => Lib.compareBytes a.1.key.data.toList b.1.key.data.toList < 0
  each : ∀ x, x ∈ out → Best (grp L x.1.key) x.1 ∧ x.2 = ((valsOf (grp L x.1.key)).length : Int) - 1
  all : ∀ s, s ∈ live L → ∃ x, x ∈ out ∧ x.1.key = s.key

/-- lists in an order, with the same elements, are the same -/
theorem sorted_ext {α : Type} {lt : α → α → Prop} (hi : ∀ a, ¬ lt a a) (ht : ∀ a b c, lt a b → lt b c → lt a c) : ∀ {l m : List α}, l.Pairwise lt → m.Pairwise lt → (∀ x, x ∈ l ↔ x ∈ m) → l = m
  | [], [], _, _, _ => rfl
  | [], b :: m, _, _, h => by have := (h b).2 (by simp); simp at this
  | a :: l, [], _, _, h => by have := (h a).1 (by simp); simp at this
  | a :: l, b :: m, h1, h2, h => by
    have p1 := List.pairwise_cons.1 h1
    have p2 := List.pairwise_cons.1 h2
    have e : a = b := by
      rcases List.mem_cons.1 ((h a).1 (by simp)) with e | e
      · exact e
      · rcases List.mem_cons.1 ((h b).2 (by simp)) with e' | e'
        · exact e'.symm
        · exact absurd (ht _ _ _ (p1.1 b e') (p2.1 a e)) (hi a)
    subst e
    rw [sorted_ext hi ht p1.2 p2.2 fun x => ?_]
    constructor
    · intro hx
      rcases List.mem_cons.1 ((h x).1 (by simp [hx])) with e | e
      · subst e
        exact absurd (p1.1 x hx) (hi x)
      · exact e
    · intro hx
      rcases List.mem_cons.1 ((h x).2 (by simp [hx])) with e | e
      · subst e
        exact absurd (p2.1 x hx) (hi x)
      · exact e
theorem mem_grp {L : List Sd} {k : ByteArray} {s : Sd} : s ∈ grp L k ↔ s ∈ live L ∧ s.key = k := by simp [grp, List.mem_filter]
theorem mem_live {L : List Sd} {s : Sd} : s ∈ live L ↔ s ∈ L ∧ s.key.size ≠ 0 ∧ backed L s = false := by simp [live, List.mem_filter]
theorem Shows.uniq {L : List Sd} {o o' : List (Sd × Int)} (hu : Uq L) (h : Shows L o) (h' : Shows L o') : o = o' := by
  have key : ∀ {o o' : List (Sd × Int)}, Shows L o → Shows L o' → ∀ x, x ∈ o → x ∈ o' := by
    intro o o' h h' x hx
    obtain ⟨h1, h2⟩ := h.each x hx
    have hg := mem_grp.1 h1.1
    obtain ⟨y, hy, e⟩ := h'.all _ hg.1
    obtain ⟨k1, k2⟩ := h'.each y hy
    rw [e] at k1 k2
    have e2 : x.1 = y.1 := Best.uniq (fun a ha b hb => hu a (mem_live.1 (mem_grp.1 ha).1).1 b (mem_live.1 (mem_grp.1 hb).1).1) h1 k1
    have e3 : x = y := Prod.ext e2 (h2.trans k2.symm)
    rw [e3]
    exact hy
  refine sorted_ext (α := Sd × Int) (lt := fun a b => Lib.compareBytes a.1.key.data.toList b.1.key.data.toList < 0) (fun a => ?_) (fun a b c (h1 : Lib.compareBytes a.1.key.data.toList b.1.key.data.toList < 0) (h2 : Lib.compareBytes b.1.key.data.toList c.1.key.data.toList < 0) => cb_trans h1 h2) h.sorted h'.sorted fun x => ⟨key h h' x, key h' h x⟩
  rw [cb_self]
  omega
end Go.Proofs.Ytngigogaiheckaa
