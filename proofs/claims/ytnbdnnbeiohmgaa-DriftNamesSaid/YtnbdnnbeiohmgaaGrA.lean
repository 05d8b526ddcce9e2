/- Contracts of the small functions of package grid. -/
import Derived.WalkKit
import Derived.WalkLawsBesides
import Derived.WalkSpells
import Derived.Lib.Hide
import Derived.BigQuiet
import Derived.Deep.QuietTactic
import Derived.Deep.Draws
import Derived.Deep.RegionHeld3
import Derived.Deep.AppendLies
import Derived.Deep.RegionLaw
import Derived.Test.YtnbdnnbeiohmgaaProg
import Derived.Test.YtnbdnnbeiohmgaaShelf
namespace Go.Proofs.Ytnbdnnbeiohmgaa
open Go.RowKit

def inB (n lo hi : Int) : Bool := decide (lo ≤ n) && decide (n ≤ hi)
theorem retOf {v u : Value} (h : v = u) : Ending.returned v = .returned u := by rw [h]
theorem belowDrewN {B : Nat} {a w : World} (h : Below B a w) (n : Nat) : Below B a (w.drewN n) := ⟨h.os, h.tape, h.output, h.size, h.block⟩
theorem belowDrew {B : Nat} {a w : World} (h : Below B a w) : Below B a w.drew := ⟨h.os, h.tape, h.output, h.size, h.block⟩
theorem wrapId (e : Int) (h1 : -9223372036854775808 ≤ e) (h2 : e ≤ 9223372036854775807) : wrap64 e = e := by
  unfold wrap64
  omega

theorem wrapK (e : Int) (h1 : -9223372036854775808 ≤ e) (h2 : e ≤ 9223372036854775807) : IntKind.i64.wrap e = e := by
  rw [IntWalk.i64_left]
  exact wrapId e h1 h2

theorem within_gr (n lo hi : Int) (w : World) : Calls Try.prog 62 #[.int .i64 n, .int .i64 lo, .int .i64 hi] w fun e w' => e = .returned (.bool (inB n lo hi)) ∧ w = w' := by
  go_enter Try.func62, Try.ntmps62
  go_wp2
  · go_ret
    have h : lo ≤ n := by assumption
    exact ⟨by simp [inB, h], rfl⟩
  · go_ret
    have h : n < lo := by assumption
    have h' : ¬ lo ≤ n := by omega
    exact ⟨by simp [inB, h'], rfl⟩

theorem floor_eq (a b : Int) (hb : 1 ≤ b) (h : a < 0) : -((b - 1 - a).tdiv b) = a / b := by
  rw [Int.tdiv_eq_ediv_of_nonneg (by omega)]
  have e1 : b * ((b - 1 - a) / b) + (b - 1 - a) % b = b - 1 - a := Int.mul_ediv_add_emod _ _
  have e2 := Int.emod_nonneg (b - 1 - a) (b := b) (by omega)
  have e3 := Int.emod_lt_of_pos (b - 1 - a) (b := b) (by omega)
  have e5 := (Int.ediv_emod_unique (a := a) (b := b) (r := b - 1 - (b - 1 - a) % b) (q := -((b - 1 - a) / b)) (by omega)).2 ⟨by rw [Int.mul_neg]; omega, by omega, by omega⟩
  exact e5.1.symm

theorem floor_gr (a b : Int) (w : World) (ha : -1152921504606846976 ≤ a ∧ a ≤ 1152921504606846976) (hb : 1 ≤ b ∧ b ≤ 50000) : Calls Try.prog 61 #[.int .i64 a, .int .i64 b] w fun e w' => e = .returned (.int .i64 (a / b)) ∧ w = w' := by
  have hb0 : (b == 0) = false := by simp; omega
  have hb1 : ¬ b = 0 := by omega
  have hbm : (b == -1) = false := by simp; omega
  by_cases h : a < 0
  · have e1 : wrap64 (b - 1) = b - 1 := wrapId _ (by omega) (by omega)
    have e2 : wrap64 (b - 1 - a) = b - 1 - a := wrapId _ (by omega) (by omega)
    have e4 := floor_eq a b hb.1 h
    have q1 : (0 : Int) ≤ (b - 1 - a).tdiv b := Int.tdiv_nonneg (by omega) (by omega)
    have q2 : (b - 1 - a).tdiv b ≤ b - 1 - a := by
      rw [Int.tdiv_eq_ediv_of_nonneg (by omega)]
      exact Int.ediv_le_self _ (by omega)
    obtain ⟨q, hq⟩ : ∃ q, (b - 1 - a).tdiv b = q := ⟨_, rfl⟩
    rw [hq] at e4 q1 q2
    have e3 : wrap64 q = q := wrapId _ (by omega) (by omega)
    have e5 : wrap64 (-q) = -q := wrapId _ (by omega) (by omega)
    rw [← e4]
    clear e4
    go_enter Try.func61, Try.ntmps61
    go_wp2
    go_ret
    all_goals simp
  · have q1 : (0 : Int) ≤ a / b := Int.ediv_nonneg (by omega) (by omega)
    have q2 : a / b ≤ a := Int.ediv_le_self _ (by omega)
    have e4 : a.tdiv b = a / b := Int.tdiv_eq_ediv_of_nonneg (by omega)
    obtain ⟨q, hq⟩ : ∃ q, a / b = q := ⟨_, rfl⟩
    rw [hq] at e4 q1 q2
    rw [hq]
    clear hq
    have e3 : wrap64 q = q := wrapId _ (by omega) (by omega)
    go_enter Try.func61, Try.ntmps61
    go_wp2
    go_ret
    all_goals simp
end Go.Proofs.Ytnbdnnbeiohmgaa
/- Contracts of more small functions of package grid. -/
namespace Go.Proofs.Ytnbdnnbeiohmgaa
open Go.RowKit

/-- is a spot valid, for package grid? -/
def nearC (n : Int) : Bool := inB n (-16777216) 16777216
theorem nearC_iff {n : Int} (h : nearC n = true) : -16777216 ≤ n ∧ n ≤ 16777216 := by
  simp [nearC, inB] at h
  omega

theorem root_gr (n : Int) (w : World) (h0 : 0 ≤ n) (h1 : n ≤ 281474976710656) : Calls Try.prog 72 #[.int .i64 n] w fun e w' => (∃ r : Int, e = .returned (.int .i64 r) ∧ 0 ≤ r ∧ r * r ≤ n ∧ n < (r + 1) * (r + 1)) ∧ w = w' := by
  go_enter Try.func72, Try.ntmps72
  go_wp2_with fail
  go_loopw [3, 4] (fun l h wr => wr = w ∧ ∃ a b : Int, l = .int .i64 a ∧ h = .int .i64 b ∧ 0 ≤ a ∧ a < b ∧ b ≤ 2147483648 ∧ a * a ≤ n ∧ n < b * b) (fun l h _ => (intOf h - intOf l).toNat)
  case atStart => exact ⟨rfl, 0, 2147483648, rfl, rfl, by omega, by omega, by omega, by omega, by omega⟩
  case round =>
    obtain ⟨rfl, a, b, rfl, rfl, ha, hab, hb, hA, hB⟩ := hrel
    have e1 : wrap64 (b - a) = b - a := wrapId _ (by omega) (by omega)
    have e2 : wrap64 (a + b) = a + b := wrapId _ (by omega) (by omega)
    obtain ⟨m, hm⟩ : ∃ m, (a + b).tdiv 2 = m := ⟨_, rfl⟩
    have hm' : (a + b) / 2 = m := by rw [← hm, Int.tdiv_eq_ediv_of_nonneg (by omega)]
    have e3 : wrap64 m = m := wrapId _ (by omega) (by omega)
    have hmm : 0 ≤ m * m := Int.mul_nonneg (by omega) (by omega)
    have hmm2 : m * m ≤ 4611686018427387904 := by
      have := Int.mul_le_mul (a := m) (b := m) (c := 2147483648) (d := 2147483648) (by omega) (by omega) (by omega) (by omega)
      omega
    have e4 : wrap64 (m * m) = m * m := wrapId _ (by omega) (by omega)
    by_cases hd : 1 < b - a
    · have hmb : a < m ∧ m < b := by omega
      by_cases hc : m * m ≤ n
      · clear hA hmm hmm2 hm'
        go_wp2_with fail
        go_roundw
        case rel => exact ⟨trivial, m, b, rfl, rfl, by omega, by omega, hb, hc, hB⟩
        case measure => simp [intOf]; omega
      · clear hB hmm hmm2 hm'
        go_wp2_with fail
        go_roundw
        case rel => exact ⟨trivial, a, m, rfl, rfl, by omega, by omega, by omega, hA, by omega⟩
        case measure => simp [intOf]; omega
    · obtain rfl : b = a + 1 := by omega
      clear hmm hmm2 hm'
      have HA := Lib.hid hA
      have HB := Lib.hid hB
      clear hA hB
      go_wp2_with fail
      go_ret
      exact ⟨⟨a, rfl, ha, HA.out, HB.out⟩, rfl⟩

/-- how far a number is from the places of a cell -/
def awayZ (S n c : Int) : Int := max 0 (max (c * S - n) (n - c * S - S + 1))
theorem away_gr (W H S n c : Int) (v : Value) (w : World) (hS : 1 ≤ S ∧ S ≤ 50000) (hn : -16777216 ≤ n ∧ n ≤ 16777216) (hc : 0 ≤ c ∧ c ≤ 256) :
    Calls Try.prog 71 #[.agg #[.int .i64 W, .int .i64 H, .int .i64 S, v], .int .i64 n, .int .i64 c] w fun e w' => e = .returned (.int .i64 (awayZ S n c)) ∧ Below w.heap.size w w' := by
  obtain ⟨k, hk⟩ : ∃ k, c * S = k := ⟨_, rfl⟩
  have hk0 : 0 ≤ k ∧ k ≤ 12800000 := by
    rw [← hk]
    exact ⟨Int.mul_nonneg (by omega) (by omega), by have := Int.mul_le_mul (a := c) (b := S) (c := 256) (d := 50000) (by omega) (by omega) (by omega) (by omega); omega⟩
  have e0 : wrap64 k = k := wrapId _ (by omega) (by omega)
  have e1 : wrap64 (k - n) = k - n := wrapId _ (by omega) (by omega)
  have e2 : wrap64 (n - k) = n - k := wrapId _ (by omega) (by omega)
  have e3 : wrap64 (n - k - S) = n - k - S := wrapId _ (by omega) (by omega)
  have e4 : wrap64 (n - k - S + 1) = n - k - S + 1 := wrapId _ (by omega) (by omega)
  unfold awayZ
  rw [hk]
  go_enter Try.func71, Try.ntmps71
  go_wp2_with fail
  all_goals (go_ret; refine ⟨retOf (congrArg (Value.int .i64) ?_), (Below.refl _ _).alloc (Nat.le_refl _) _⟩)
  all_goals first | omega | (rename_i h1 h2; split at h1 <;> omega) | (rename_i h1; split at h1 <;> omega)

theorem leads_gr (W H S lo hi : Int) (v : Value) (w : World) (hS : 1 ≤ S ∧ S ≤ 50000) (hl : -16777216 ≤ lo ∧ lo ≤ 16777216) (hh : -16777216 ≤ hi ∧ hi ≤ 16777216) :
    Calls Try.prog 53 #[.agg #[.int .i64 W, .int .i64 H, .int .i64 S, v], .int .i64 lo, .int .i64 hi] w fun e w' => e = .returned (.tuple #[.int .i64 (lo / S), .int .i64 ((S - 1 + hi) / S)]) ∧ Below w.heap.size w w' := by
  have e0 : IntKind.i64.wrap (S - 1) = S - 1 := wrapK _ (by omega) (by omega)
  have e1 : IntKind.i64.wrap (S - 1 + hi) = S - 1 + hi := wrapK _ (by omega) (by omega)
  have F1 := fun w => floor_gr lo S w (by omega) hS
  have F2 := fun w => floor_gr (S - 1 + hi) S w (by omega) hS
  have H1 := Lib.hid F1
  have H2 := Lib.hid F2
  clear F1 F2
  obtain ⟨q1, hq1⟩ : ∃ q, lo / S = q := ⟨_, rfl⟩
  obtain ⟨q2, hq2⟩ : ∃ q, (S - 1 + hi) / S = q := ⟨_, rfl⟩
  rw [hq1] at H1 ⊢
  rw [hq2] at H2 ⊢
  clear hq1 hq2
  go_enter Try.func53, Try.ntmps53
  go_wp2_with fail
  have c2 : (w.alloc (.cells #[.int .i64 W, .int .i64 H, .int .i64 S, v] 24)).cell? ⟨w.heap.size, 2, none⟩ = some (.int .i64 S) := by simp [go_sem]
  have b1 := (Below.refl w.heap.size w).alloc (Nat.le_refl _) (.cells #[.int .i64 W, .int .i64 H, .int .i64 S, v] 24)
  obtain ⟨w1, hw1⟩ : ∃ w1, w.alloc (.cells #[.int .i64 W, .int .i64 H, .int .i64 S, v] 24) = w1 := ⟨_, rfl⟩
  rw [hw1] at c2 b1 ⊢
  clear hw1
  go_region_held3 (fun W' => W'.cell? ⟨w.heap.size, 2, none⟩ = some (.int .i64 S)) (first | exact c2 | go_keep)
    (first | (go_at_call 61; first | ((with_reducible refine (H1.out _).mono ?_); rintro e w' ⟨rfl, rfl⟩) | ((with_reducible refine (H2.out _).mono ?_); rintro e w' ⟨rfl, rfl⟩)))
  go_wp2_with fail
  exact bodyPost_ret (v := .tuple #[.int .i64 q1, .int .i64 q2]) (by simp [results, Try.results53, go_sem]) rfl ⟨rfl, belowDrew b1⟩

def pushB (a b c d : Int) : Bool := inB a (-16777216) c && inB b (-16777216) d && decide (max c d ≤ 16777216)
theorem pushed_gr (a b c d : Int) (w : World) : Calls Try.prog 52 #[.agg #[.int .i64 a, .int .i64 b, .int .i64 c, .int .i64 d]] w fun e w' => e = .returned (.bool (pushB a b c d)) ∧ Below w.heap.size w w' := by
  unfold pushB
  go_enter Try.func52, Try.ntmps52
  go_wp2_with fail
  refine (within_gr _ _ _ _).mono ?_
  rintro e w' ⟨rfl, rfl⟩
  cases h1 : inB a (-16777216) c with
  | false =>
    go_wp2_with fail
    go_ret
    exact ⟨retOf (congrArg Value.bool (by simp [inB] at *; omega)), (Below.refl _ _).alloc (Nat.le_refl _) _⟩
  | true =>
    go_wp2_with fail
    refine (within_gr _ _ _ _).mono ?_
    rintro e w' ⟨rfl, rfl⟩
    cases h2 : inB b (-16777216) d with
    | false =>
      go_wp2_with fail
      go_ret
      exact ⟨retOf (congrArg Value.bool (by simp [inB] at *; omega)), (Below.refl _ _).alloc (Nat.le_refl _) _⟩
    | true =>
      go_wp2_with fail
      all_goals (go_ret; refine ⟨retOf (congrArg Value.bool ?_), (Below.refl _ _).alloc (Nat.le_refl _) _⟩)
      all_goals (simp [inB] at *; omega)

theorem near1_gr (x y : Int) (w : World) : Calls Try.prog 111 #[.agg #[.int .i64 x, .int .i64 y]] w fun e w' => e = .returned (.bool (!(nearC x && nearC y))) ∧ Below w.heap.size w w' := by
  unfold nearC
  go_enter Try.func111, Try.ntmps111
  go_wp2_with fail
  refine (within_gr _ _ _ _).mono ?_
  rintro e w' ⟨rfl, rfl⟩
  cases h1 : inB x (-16777216) 16777216 with
  | false =>
    go_wp2_with fail
    go_ret
    exact ⟨retOf (congrArg Value.bool (by simp [h1])), (Below.refl _ _).alloc (Nat.le_refl _) _⟩
  | true =>
    go_wp2_with fail
    refine (within_gr _ _ _ _).mono ?_
    rintro e w' ⟨rfl, rfl⟩
    go_wp2_with fail
    go_ret
    exact ⟨retOf (congrArg Value.bool (by simp [h1])), (Below.refl _ _).alloc (Nat.le_refl _) _⟩
end Go.Proofs.Ytnbdnnbeiohmgaa
/- Slices, as lists; runs; ContainsFunc. -/
namespace Go.Proofs.Ytnbdnnbeiohmgaa
open Go.RowKit Go.Shelf Go.Lib

/-- the slice value v reads as the list l, an element in k cells -/
def Lst {α : Type} (k : Nat) (enc : α → List Value) (w : World) (v : Value) (l : List α) : Prop :=
  ∃ A c, v = .slice A l.length c ∧ l.length ≤ c ∧ c ≤ maxLen ∧ (0 < l.length → ∃ b off, A = some ⟨b, off, none⟩ ∧ b < w.heap.size ∧
    ∀ (j i : Nat) (x : α) (u : Value), l[j]? = some x → (enc x)[i]? = some u → w.cell? ⟨b, off + j * k + i, none⟩ = some u)

section
variable {α : Type} {k : Nat} {enc : α → List Value}
theorem Lst.keep {w w' : World} {v : Value} {l : List α} (h : Lst k enc w v l) (hs : w.heap.size ≤ w'.heap.size) (hk : ∀ p : Addr, p.block < w.heap.size → w'.cell? p = w.cell? p) : Lst k enc w' v l := by
  obtain ⟨A, c, e, h1, h2, h3⟩ := h
  refine ⟨A, c, e, h1, h2, fun h0 => ?_⟩
  obtain ⟨b, off, e', hb, hc⟩ := h3 h0
  exact ⟨b, off, e', by omega, fun j i x u hj hi => (hk ⟨b, off + j * k + i, none⟩ hb).trans (hc j i x u hj hi)⟩
theorem Lst.below {w w' : World} {v : Value} {l : List α} (h : Lst k enc w v l) (hb : Below w.heap.size w w') : Lst k enc w' v l := h.keep hb.size fun _ hp => hb.cell hp
theorem Lst.alloc {w : World} {v : Value} {l : List α} (h : Lst k enc w v l) (o : Obj) : Lst k enc (w.alloc o) v l := h.below ((Below.refl _ _).alloc (Nat.le_refl _) _)
theorem Lst.drew {w : World} {v : Value} {l : List α} (h : Lst k enc w v l) : Lst k enc w.drew v l := h
theorem Lst.nil (w : World) : Lst k enc w (.slice none 0 0) ([] : List α) := ⟨none, 0, rfl, Nat.le_refl _, by unfold maxLen; omega, fun h => by simp at h⟩
/-- the list behind its first element -/
theorem Lst.tail {w : World} {x : α} {l : List α} {A : Option Addr} {n c : Nat} (h : Lst k enc w (.slice A n c) (x :: l)) : ∃ b off, A = some ⟨b, off, none⟩ ∧ Lst k enc w (.slice (some ⟨b, off + k, none⟩) (n - 1) (c - 1)) l := by
  obtain ⟨A', c', e, h1, h2, h3⟩ := h
  cases e
  obtain ⟨b, off, e', hb, hc⟩ := h3 (by simp)
  refine ⟨b, off, e', _, _, rfl, ?_, by omega, fun h0 => ⟨b, off + k, rfl, hb, fun j i y u hj hi => ?_⟩⟩
  · simp at h1; omega
  · have := hc (j + 1) i y u (by simpa using hj) hi
    rw [show off + k + j * k + i = off + (j + 1) * k + i by rw [Nat.add_mul]; omega]
    exact this
theorem Lst.len {w : World} {l : List α} {A : Option Addr} {n c : Nat} (h : Lst k enc w (.slice A n c) l) : n = l.length := by
  obtain ⟨A', c', e, -⟩ := h
  cases e
  rfl

/-- the cells of a list -/
def flatE (enc : α → List Value) (l : List α) : List Value := l.flatMap enc
theorem flatE_append (l m : List α) : flatE enc (l ++ m) = flatE enc l ++ flatE enc m := by simp [flatE]
theorem flatE_length (hk : ∀ x, (enc x).length = k) (l : List α) : (flatE enc l).length = l.length * k := by
  induction l with
  | nil => simp [flatE]
  | cons a l ih => simp only [flatE, List.flatMap_cons, List.length_append, List.length_cons] at ih ⊢; rw [ih, hk, Nat.add_mul]; omega
theorem flatE_get (hk : ∀ x, (enc x).length = k) (l : List α) : ∀ (j i : Nat) (x : α) (u : Value), l[j]? = some x → (enc x)[i]? = some u → (flatE enc l)[j * k + i]? = some u := by
  induction l with
  | nil => intro j i x u h; simp at h
  | cons a l ih =>
    intro j i x u h hu
    have hi : i < k := by
      have := (List.getElem?_eq_some_iff.1 hu).1
      rw [hk] at this
      exact this
    cases j with
    | zero =>
      simp at h
      subst h
      simp only [flatE, List.flatMap_cons, Nat.zero_mul, Nat.zero_add]
      rw [List.getElem?_append_left (by rw [hk]; exact hi)]
      exact hu
    | succ j =>
      have := ih j i x u (by simpa using h) hu
      simp only [flatE, List.flatMap_cons] at this ⊢
      rw [List.getElem?_append_right (by rw [hk, Nat.add_mul]; omega), hk, show (j + 1) * k + i - k = j * k + i by rw [Nat.add_mul]; omega]
      exact this
/-- a row of the call's own reads as a list -/
theorem Lst_of_own (hk : ∀ x, (enc x).length = k) {w : World} {base : Nat} {e : TypeId} {v : Value} {n : Nat} {l : List α} (h : w.ownsRow base e k v n (flatE enc l)) (hn : n = l.length) : Lst k enc w v l := by
  subst hn
  rcases Nat.eq_zero_or_pos l.length with h0 | h0
  · have hl : l = [] := List.eq_nil_of_length_eq_zero h0
    subst hl
    rcases h.2 with ⟨rfl, _⟩ | ⟨g, cap, cur, rfl, _, hh, _, hm, _⟩
    · exact ⟨none, 0, rfl, Nat.le_refl _, by unfold maxLen; omega, fun h => absurd h (by simp)⟩
    · exact ⟨_, cap, rfl, by simp, by omega, fun h => absurd h (by simp)⟩
  · obtain ⟨g, cap, rfl, hb, hlt⟩ := h.form h0
    have hc := h.cells (g := g) rfl
    rcases h.2 with ⟨_, h1⟩ | ⟨g', cap', cur, hv, _, hh, hnc, hm, _⟩
    · omega
    · cases hv
      refine ⟨_, cap, rfl, hnc, by omega, fun _ => ⟨g, 0, rfl, hlt, fun j i x u hj hi => ?_⟩⟩
      have a1 := hc _ _ (flatE_get hk l j i x u hj hi)
      have ad : ∀ j, (⟨g, 0, none⟩ : Addr).add j = ⟨g, 0 + j, none⟩ := fun j => by unfold Addr.add; split <;> simp_all
      rw [ad] at a1
      rw [Nat.add_assoc]
      exact a1
/-- a literal, in a block of its own -/
theorem Lst_lit (hk : ∀ x, (enc x).length = k) (w : World) (B n : Nat) (hB : w.heap.size = B) (cs : Array Value) (l : List α) (e : TypeId) (hc : cs.toList = flatE enc l) (hn : n = l.length) (hm : n ≤ maxLen) : Lst k enc (w.alloc (.cells cs e)) (.slice (some ⟨B, 0, none⟩) n n) l := by
  subst hB
  have hs : cs.size = n * k := by rw [← Array.length_toList, hc, flatE_length hk, hn]
  have h := World.ownsRow_lit (base := 0) (e := e) (size := k) w cs n (Nat.zero_le _) hm hs
  rw [hc] at h
  exact Lst_of_own hk h hn
end

theorem belowGrown {w w' : World} (h : Below w.heap.size w w') : w.grownBy w' none := ⟨h.os, h.tape, h.output, h.size, fun i hi _ => h.block i hi⟩
theorem ownsBelow {w w' : World} {base : Nat} {e : TypeId} {size : Nat} {v : Value} {n : Nat} {xs : List Value} (h : w.ownsRow base e size v n xs) (hb : Below w.heap.size w w') : w'.ownsRow base e size v n xs :=
  h.kept (belowGrown hb) (by cases hv : v.ownBlock <;> simp)

theorem frozenAllocLt (w : World) (o : Obj) (p : Addr) (h : p.block < w.heap.size) : (w.alloc o).frozen? p = w.frozen? p := ((Below.refl w.heap.size w).alloc (Nat.le_refl _) o).frozen h

/-- a run: its row, its first cell, the one behind its last -/
abbrev R3 := Int × Int × Int
def encR (r : R3) : List Value := [.int .i64 r.1, .int .i64 r.2.1, .int .i64 r.2.2]
theorem encR_len (r : R3) : (encR r).length = 3 := rfl
def encS (s : Int × Int) : List Value := [.int .i64 s.1, .int .i64 s.2]
theorem encS_len (s : Int × Int) : (encS s).length = 2 := rfl
abbrev Runs (w : World) (v : Value) (l : List R3) : Prop := Lst 3 encR w v l

theorem Runs.at {w : World} {l : List R3} {n c b off : Nat} (h : Runs w (.slice (some ⟨b, off, none⟩) n c) l) {j : Nat} {y f t : Int} (hj : l[j]? = some (y, f, t)) :
    b < w.heap.size ∧ w.cell? ⟨b, off + j * 3, none⟩ = some (.int .i64 y) ∧ w.cell? ⟨b, off + j * 3 + 1, none⟩ = some (.int .i64 f) ∧ w.cell? ⟨b, off + j * 3 + 2, none⟩ = some (.int .i64 t) := by
  obtain ⟨A', c', e, h1, h2, h3⟩ := h
  cases e
  obtain ⟨b', off', e', hb, hc⟩ := h3 (by have := (List.getElem?_eq_some_iff.1 hj).1; omega)
  cases e'
  exact ⟨hb, hc j 0 _ _ hj rfl, hc j 1 _ _ hj rfl, hc j 2 _ _ hj rfl⟩

/-- ContainsFunc over no element -/
theorem has_run_none (A : Option Addr) (c : Nat) (fv : Value) (w : World) : Calls Try.prog 63 #[.slice A 0 c, fv] w fun e w' => e = .returned (.bool false) ∧ w = w' := by
  have hi : ∀ w, Calls Try.prog 112 #[.slice A 0 c, fv] w fun e w' => e = .returned (.int .i64 (-1)) ∧ w = w' := by
    intro w
    go_enter Try.func112, Try.ntmps112
    go_wp2_with fail
    go_loopw [8] (fun i wr => i = .int .i64 0 ∧ w = wr) (fun _ _ => 0)
    case atStart => exact ⟨rfl, rfl⟩
    case round =>
      obtain ⟨rfl, rfl⟩ := hrel
      go_wp2_with fail
      go_ret
      exact ⟨rfl, rfl⟩
  go_enter Try.func63, Try.ntmps63
  go_wp2_with fail
  refine (hi _).mono ?_
  rintro e w1 ⟨rfl, rfl⟩
  go_wp2_with fail
  go_ret
  exact ⟨rfl, rfl⟩

/-- ContainsFunc over runs -/
theorem has_run (g : Nat) (cb : Array Value) (p : R3 → Bool) (v : Value) (l : List R3) (w : World) (h : Runs w v l) (eg : ∀ args w, (callFunc g args).run Try.prog w = .ok (.enter g args) w)
    (hp : ∀ (W : World) (y f t : Int), Below w.heap.size w W → Calls Try.prog g (#[.agg #[.int .i64 y, .int .i64 f, .int .i64 t]] ++ cb) W fun e w' => e = .returned (.bool (p (y, f, t))) ∧ Below W.heap.size W w') :
    Calls Try.prog 63 #[v, .func (.func g) #[] cb] w fun e w' => e = .returned (.bool (l.any p)) ∧ Below w.heap.size w w' := by
  obtain ⟨A, c, rfl, h1, h2, h3⟩ := h
  unfold maxLen at h2
  rcases Nat.eq_zero_or_pos l.length with h0 | h0
  · have hl : l = [] := List.eq_nil_of_length_eq_zero h0
    subst hl
    refine (has_run_none A c _ w).mono ?_
    rintro e w' ⟨rfl, rfl⟩
    exact ⟨rfl, Below.refl _ _⟩
  · obtain ⟨b, off, rfl, hb, hc⟩ := h3 h0
    have hcon := AnyQ.slices_ContainsFunc Try.hasRun 3 Try.isAgg72 Try.sizeOf72 encR encR_len p g cb eg b off l.length c l w
      (fun W x hW => (hp W x.1 x.2.1 x.2.2 hW).mono fun e w' ⟨he, hb'⟩ => ⟨he, hW.trans (hb'.mono hW.size)⟩) (Nat.le_refl _) (by omega) hb
      (fun j hj i u hu => by
        have e : l[j]! = l[j] := by simp [hj]
        rw [e] at hu
        exact hc j i _ u (List.getElem?_eq_getElem hj) hu)
    rw [List.take_length] at hcon
    exact hcon

end Go.Proofs.Ytnbdnnbeiohmgaa
/- grid.near, grid.Has. -/
namespace Go.Proofs.Ytnbdnnbeiohmgaa
open Go.RowKit Go.Shelf Go.Lib

def nearS (s : Int × Int) : Bool := nearC s.1 && nearC s.2

/-- are spots valid? (one or more of them) -/
theorem near_gr (v : Value) (l : List (Int × Int)) (w : World) (h : Lst 2 encS w v l) (h0 : 0 < l.length) :
    Calls Try.prog 60 #[v] w fun e w' => e = .returned (.bool (l.all nearS)) ∧ Below w.heap.size w w' := by
  obtain ⟨A, c, rfl, h1, h2, h3⟩ := h
  unfold maxLen at h2
  obtain ⟨b, off, rfl, hb, hc⟩ := h3 h0
  have eg : ∀ args w, (callFunc 111 args).run Try.prog w = .ok (.enter 111 args) w := enters_of Try.func111 (by kernel_rfl) rfl
  have hcon := AnyQ.slices_ContainsFunc Try.hasSpot 2 Try.isAgg26 Try.sizeOf26 encS encS_len (fun s => !nearS s) 111 #[] eg b off l.length c l w
    (fun W x hW => (near1_gr x.1 x.2 W).mono fun e w' ⟨he, hb'⟩ => ⟨he, hW.trans (hb'.mono hW.size)⟩) (Nat.le_refl _) (by omega) hb
    (fun j hj i u hu => by
      have e : l[j]! = l[j] := by simp [hj]
      rw [e] at hu
      exact hc j i _ u (List.getElem?_eq_getElem hj) hu)
  rw [List.take_length] at hcon
  change Calls Try.prog 110 _ _ _ at hcon
  have e1 : l.all nearS = !(l.any fun s => !nearS s) := by rw [List.not_any_eq_all_not]; simp
  rw [e1]
  obtain ⟨r, hr⟩ : ∃ r, (l.any fun s => !nearS s) = r := ⟨_, rfl⟩
  rw [hr] at hcon ⊢
  have HC := Lib.hid hcon
  clear hcon hc h3 hr
  go_enter Try.func60, Try.ntmps60
  go_wp2_with fail
  refine HC.out.mono ?_
  rintro e w1 ⟨rfl, hb1⟩
  go_wp2_with fail
  go_ret
  exact ⟨rfl, hb1⟩

/-- does a run have a cell? -/
def hasR (x y : Int) (r : R3) : Bool := r.1 == y && decide (r.2.1 ≤ x) && decide (x < r.2.2)

theorem has1_gr (x y a f t : Int) (B : Nat) (w : World) (hB : B < w.heap.size) (c0 : w.cell? ⟨B, 0, none⟩ = some (.int .i64 x)) (c1 : w.cell? ⟨B, 1, none⟩ = some (.int .i64 y)) :
    Calls Try.prog 64 #[.agg #[.int .i64 a, .int .i64 f, .int .i64 t], .pointer (some ⟨B, 0, none⟩)] w fun e w' => e = .returned (.bool (hasR x y (a, f, t))) ∧ Below w.heap.size w w' := by
  unfold hasR
  dsimp only
  by_cases h1 : a = y
  · subst h1
    by_cases h2 : f ≤ x
    · go_enter Try.func64, Try.ntmps64
      go_wp2_with fail
      go_ret
      exact ⟨retOf (congrArg Value.bool (by simp [h2])), (Below.refl _ _).alloc (Nat.le_refl _) _⟩
    · have h2' : x < f := by omega
      go_enter Try.func64, Try.ntmps64
      go_wp2_with fail
      go_ret
      exact ⟨retOf (congrArg Value.bool (by simp; omega)), (Below.refl _ _).alloc (Nat.le_refl _) _⟩
  · have h1' : (a == y) = false := by simpa using h1
    go_enter Try.func64, Try.ntmps64
    go_wp2_with fail
    go_ret
    exact ⟨retOf (congrArg Value.bool (by simp [h1])), (Below.refl _ _).alloc (Nat.le_refl _) _⟩

def hasL (l : List R3) (x y : Int) : Bool := l.any (hasR x y)
theorem has_gr (v : Value) (l : List R3) (x y : Int) (w : World) (h : Runs w v l) :
    Calls Try.prog 18 #[v, .agg #[.int .i64 x, .int .i64 y]] w fun e w' => e = .returned (.bool (hasL l x y)) ∧ Below w.heap.size w w' := by
  have eg : ∀ args w, (callFunc 64 args).run Try.prog w = .ok (.enter 64 args) w := enters_of Try.func64 (by kernel_rfl) rfl
  have hcon := has_run 64 #[.pointer (some ⟨w.heap.size, 0, none⟩)] (hasR x y) v l (w.alloc (.cells #[.int .i64 x, .int .i64 y] 39)) (h.alloc _) eg (fun W a f t hW => by
    have c0 := hW.cell (p := ⟨w.heap.size, 0, none⟩) (by simp)
    have c1 := hW.cell (p := ⟨w.heap.size, 1, none⟩) (by simp)
    have hz := hW.size
    simp [go_sem] at c0 c1 hz
    exact has1_gr x y a f t w.heap.size W (by omega) c0 c1)
  obtain ⟨A, c, rfl, -⟩ := h
  obtain ⟨r, hr⟩ : ∃ r, hasL l x y = r := ⟨_, rfl⟩
  rw [hr]
  rw [show l.any (hasR x y) = r from hr] at hcon
  have HC := Lib.hid hcon
  clear hcon hr
  go_enter Try.func18, Try.ntmps18
  go_wp2_with fail
  refine HC.out.mono ?_
  rintro e w1 ⟨rfl, hb1⟩
  go_wp2_with fail
  go_ret
  exact ⟨rfl, ((Below.refl _ _).alloc (Nat.le_refl _) _).trans (hb1.mono (by simp))⟩
end Go.Proofs.Ytnbdnnbeiohmgaa
/- grid.right: are runs a region of a grid? -/
namespace Go.Proofs.Ytnbdnnbeiohmgaa
open Go.RowKit Go.Shelf Go.Lib

def okR (W H : Int) (p x : R3) : Bool := inB x.1 (max 0 p.1) (H - 1) && inB x.2.1 0 (wrap64 (x.2.2 - 1)) && decide (x.2.2 ≤ W) && !(x.1 == p.1 && decide (x.2.1 ≤ p.2.2))
def rightL (W H : Int) : R3 → List R3 → Bool
  | _, [] => true
  | p, x :: l => okR W H p x && rightL W H x l
def rightB (W H : Int) (l : List R3) : Bool := rightL W H (-1, 0, 0) l && decide (l.length ≤ 8192)
/-- the run before the k-th -/
def lastR (l : List R3) : Nat → R3
  | 0 => (-1, 0, 0)
  | k + 1 => l.getD k default
theorem rightL_drop {W H : Int} {l : List R3} {k : Nat} (h : k < l.length) : rightL W H (lastR l k) (l.drop k) = (okR W H (lastR l k) (l.getD k default) && rightL W H (lastR l (k + 1)) (l.drop (k + 1))) := by
  rw [List.drop_eq_getElem_cons h, rightL]
  simp [lastR, List.getD, h]

theorem rightB_no {W H : Int} {l : List R3} {k : Nat} {x p : R3} (hA : rightL W H (-1, 0, 0) l = rightL W H (lastR l k) (l.drop k)) (hx : l[k]? = some x) (hp : lastR l k = p) (h : okR W H p x = false) : rightB W H l = false := by
  have hk := (List.getElem?_eq_some_iff.1 hx).1
  have e : l.getD k default = x := by simp [List.getD, hx]
  rw [rightB, hA, rightL_drop hk, hp, e, h]
  rfl
theorem rightL_on {W H : Int} {l : List R3} {k : Nat} {x p : R3} (hA : rightL W H (-1, 0, 0) l = rightL W H (lastR l k) (l.drop k)) (hx : l[k]? = some x) (hp : lastR l k = p) (h : okR W H p x = true) :
    rightL W H (-1, 0, 0) l = rightL W H (lastR l (k + 1)) (l.drop (k + 1)) ∧ lastR l (k + 1) = x := by
  have hk := (List.getElem?_eq_some_iff.1 hx).1
  have e : l.getD k default = x := by simp [List.getD, hx]
  refine ⟨?_, e⟩
  rw [hA, rightL_drop hk, hp, e, h]
  rfl

set_option maxRecDepth 100000 in
set_option maxHeartbeats 4000000 in
theorem right_gr (W H S : Int) (vL v : Value) (l : List R3) (w : World) (hH : 1 ≤ H ∧ H ≤ 256) (h : Runs w v l) :
    Calls Try.prog 104 #[.agg #[.int .i64 W, .int .i64 H, .int .i64 S, vL], v] w fun e w' => e = .returned (.bool (rightB W H l)) ∧ Below w.heap.size w w' := by
  have h' := h
  obtain ⟨A, c, rfl, h1, h2, -⟩ := h
  unfold maxLen at h2
  have eH : wrap64 (H - 1) = H - 1 := wrapId _ (by omega) (by omega)
  go_enter Try.func104, Try.ntmps104
  go_wp2_with fail
  have b1 : Below w.heap.size w ((w.alloc (.cells #[.int .i64 W, .int .i64 H, .int .i64 S, vL] 24)).alloc (.cells #[.int .i64 (-1), .int .i64 0, .int .i64 0] 72)) :=
    ((Below.refl _ _).alloc (Nat.le_refl _) _).alloc (by simp) _
  have g0 : ((w.alloc (.cells #[.int .i64 W, .int .i64 H, .int .i64 S, vL] 24)).alloc (.cells #[.int .i64 (-1), .int .i64 0, .int .i64 0] 72)).cell? ⟨w.heap.size, 0, none⟩ = some (.int .i64 W) := by simp [go_sem]
  have g1 : ((w.alloc (.cells #[.int .i64 W, .int .i64 H, .int .i64 S, vL] 24)).alloc (.cells #[.int .i64 (-1), .int .i64 0, .int .i64 0] 72)).cell? ⟨w.heap.size, 1, none⟩ = some (.int .i64 H) := by simp [go_sem]
  have l0 : ((w.alloc (.cells #[.int .i64 W, .int .i64 H, .int .i64 S, vL] 24)).alloc (.cells #[.int .i64 (-1), .int .i64 0, .int .i64 0] 72)).cell? ⟨w.heap.size + 1, 0, none⟩ = some (.int .i64 (-1)) := by simp [go_sem]
  have l1 : ((w.alloc (.cells #[.int .i64 W, .int .i64 H, .int .i64 S, vL] 24)).alloc (.cells #[.int .i64 (-1), .int .i64 0, .int .i64 0] 72)).cell? ⟨w.heap.size + 1, 1, none⟩ = some (.int .i64 0) := by simp [go_sem]
  have l2 : ((w.alloc (.cells #[.int .i64 W, .int .i64 H, .int .i64 S, vL] 24)).alloc (.cells #[.int .i64 (-1), .int .i64 0, .int .i64 0] 72)).cell? ⟨w.heap.size + 1, 2, none⟩ = some (.int .i64 0) := by simp [go_sem]
  have z0 : ((w.alloc (.cells #[.int .i64 W, .int .i64 H, .int .i64 S, vL] 24)).alloc (.cells #[.int .i64 (-1), .int .i64 0, .int .i64 0] 72)).frozen? ⟨w.heap.size + 1, 0, none⟩ = false := by simp [go_sem]
  have z1 : ((w.alloc (.cells #[.int .i64 W, .int .i64 H, .int .i64 S, vL] 24)).alloc (.cells #[.int .i64 (-1), .int .i64 0, .int .i64 0] 72)).frozen? ⟨w.heap.size + 1, 1, none⟩ = false := by simp [go_sem]
  have z2 : ((w.alloc (.cells #[.int .i64 W, .int .i64 H, .int .i64 S, vL] 24)).alloc (.cells #[.int .i64 (-1), .int .i64 0, .int .i64 0] 72)).frozen? ⟨w.heap.size + 1, 2, none⟩ = false := by simp [go_sem]
  have hz0 : w.heap.size + 2 ≤ ((w.alloc (.cells #[.int .i64 W, .int .i64 H, .int .i64 S, vL] 24)).alloc (.cells #[.int .i64 (-1), .int .i64 0, .int .i64 0] 72)).heap.size := by simp
  obtain ⟨w0, hw0⟩ : ∃ w0, ((w.alloc (.cells #[.int .i64 W, .int .i64 H, .int .i64 S, vL] 24)).alloc (.cells #[.int .i64 (-1), .int .i64 0, .int .i64 0] 72)) = w0 := ⟨_, rfl⟩
  rw [hw0] at b1 hz0 g0 g1 l0 l1 l2 z0 z1 z2 ⊢
  clear hw0
  obtain ⟨B, hB⟩ : ∃ B, w.heap.size = B := ⟨_, rfl⟩
  rw [hB] at b1 hz0 g0 g1 l0 l1 l2 z0 z1 z2 ⊢
  go_loopw [11] (fun i wr => ∃ k : Nat, k ≤ l.length ∧ i = .int .i64 k ∧ Below B w wr ∧ wr.cell? ⟨B, 0, none⟩ = some (.int .i64 W) ∧ wr.cell? ⟨B, 1, none⟩ = some (.int .i64 H) ∧
      wr.cell? ⟨B + 1, 0, none⟩ = some (.int .i64 (lastR l k).1) ∧ wr.cell? ⟨B + 1, 1, none⟩ = some (.int .i64 (lastR l k).2.1) ∧ wr.cell? ⟨B + 1, 2, none⟩ = some (.int .i64 (lastR l k).2.2) ∧
      wr.frozen? ⟨B + 1, 0, none⟩ = false ∧ wr.frozen? ⟨B + 1, 1, none⟩ = false ∧ wr.frozen? ⟨B + 1, 2, none⟩ = false ∧ B + 2 ≤ wr.heap.size ∧ Hid (rightL W H (-1, 0, 0) l = rightL W H (lastR l k) (l.drop k))) (fun i _ => l.length - (intOf i).toNat)
  case atStart => exact ⟨0, Nat.zero_le _, rfl, b1, g0, g1, l0, l1, l2, z0, z1, z2, hz0, rfl⟩
  case round =>
    obtain ⟨k, hk, rfl, hb, q0, q1, r0, r1, r2, y0, y1, y2, hz, hA⟩ := hrel
    clear g0 g1 b1 l0 l1 l2 z0 z1 z2 hz0
    obtain ⟨⟨p0, p1, p2⟩, hp⟩ : ∃ p, lastR l k = p := ⟨_, rfl⟩
    rw [hp] at r0 r1 r2
    dsimp only at r0 r1 r2
    by_cases hlt : k < l.length
    · obtain ⟨⟨y, f, t⟩, hx⟩ : ∃ x, l[k]? = some x := ⟨_, List.getElem?_eq_getElem hlt⟩
      obtain ⟨b, off, rfl, hbl, hc⟩ : ∃ b off, A = some ⟨b, off, none⟩ ∧ b < w.heap.size ∧ wr.cell? ⟨b, off + k * 3, none⟩ = some (.int .i64 y) ∧ wr.cell? ⟨b, off + k * 3 + 1, none⟩ = some (.int .i64 f) ∧ wr.cell? ⟨b, off + k * 3 + 2, none⟩ = some (.int .i64 t) := by
        obtain ⟨A', c', e, -, -, h3⟩ := h'
        cases e
        obtain ⟨b, off, rfl, hbl, hc⟩ := h3 (by omega)
        exact ⟨b, off, rfl, hbl, (hb.cell (p := ⟨b, off + k * 3, none⟩) (by dsimp only; omega)).trans (hc k 0 _ _ hx rfl), (hb.cell (p := ⟨b, off + k * 3 + 1, none⟩) (by dsimp only; omega)).trans (hc k 1 _ _ hx rfl), (hb.cell (p := ⟨b, off + k * 3 + 2, none⟩) (by dsimp only; omega)).trans (hc k 2 _ _ hx rfl)⟩
      obtain ⟨m0, m1, m2⟩ := hc
      have HX := Lib.hid hx
      have HL := Lib.hid h'
      have HP := Lib.hid hp
      clear hx h' hp
      have n0 : B < wr.heap.size := by omega
      have n1 : B + 1 < wr.heap.size := by omega
      have n2 : b < wr.heap.size := by omega
      go_wp2_with fail
      refine (within_gr _ _ _ _).mono ?_
      rintro e w' ⟨rfl, rfl⟩
      cases h1 : inB y (max 0 p0) (H - 1) with
      | false =>
        go_wp2_with fail
        go_ret
        exact ⟨retOf (congrArg Value.bool (rightB_no hA.out HX.out HP.out (by simp [okR, h1])).symm), hB.symm ▸ hb.trans (((Below.refl _ _).alloc (Nat.le_refl _) _).mono (by omega))⟩
      | true =>
        go_wp2_with fail
        refine (within_gr _ _ _ _).mono ?_
        rintro e w' ⟨rfl, rfl⟩
        cases h2 : inB f 0 (wrap64 (t - 1)) with
        | false =>
          go_wp2_with fail
          go_ret
          exact ⟨retOf (congrArg Value.bool (rightB_no hA.out HX.out HP.out (by simp [okR, h1, h2])).symm), hB.symm ▸ hb.trans (((Below.refl _ _).alloc (Nat.le_refl _) _).mono (by omega))⟩
        | true =>
          by_cases h3 : t ≤ W
          · by_cases h4 : y = p0
            · subst h4
              by_cases h5 : f ≤ p2
              · go_wp2_with fail
                go_ret
                exact ⟨retOf (congrArg Value.bool (rightB_no hA.out HX.out HP.out (by simp [okR, h1, h2, h3, h5])).symm), hB.symm ▸ hb.trans (((Below.refl _ _).alloc (Nat.le_refl _) _).mono (by omega))⟩
              · have h5' : p2 < f := by omega
                have hok : okR W H (y, p1, p2) (y, f, t) = true := by simp [okR, h1, h2, h3]; omega
                have H5 := Lib.hid hok
                clear hok
                go_wp2_with fail
                obtain ⟨a1, a2⟩ := rightL_on hA.out HX.out HP.out H5.out
                go_roundw
                case rel =>
                  refine ⟨k + 1, by omega, by go_num, ((((hb.setCell (p := ⟨B + 1, 0, none⟩) (by simp) _).setCell (p := ⟨B + 1, 1, none⟩) (by simp) _).setCell (p := ⟨B + 1, 2, none⟩) (by simp) _).alloc (by simp; omega) _), ?_, ?_, ?_, ?_, ?_, ?_, ?_, ?_, ?_, a1⟩
                  all_goals (try rw [a2])
                  all_goals (first | (simp [go_sem, q0, q1, r0, r1, r2, y0, y1, y2, n0, n1]; done) | (simp [World.setCell]; omega))
                case measure => simp [intOf]; omega
            · have h4' : (y == p0) = false := by simpa using h4
              have hok : okR W H (p0, p1, p2) (y, f, t) = true := by simp [okR, h1, h2, h3, h4]
              have H5 := Lib.hid hok
              clear hok
              go_wp2_with fail
              obtain ⟨a1, a2⟩ := rightL_on hA.out HX.out HP.out H5.out
              go_roundw
              case rel =>
                refine ⟨k + 1, by omega, by go_num, ((((hb.setCell (p := ⟨B + 1, 0, none⟩) (by simp) _).setCell (p := ⟨B + 1, 1, none⟩) (by simp) _).setCell (p := ⟨B + 1, 2, none⟩) (by simp) _).alloc (by simp; omega) _), ?_, ?_, ?_, ?_, ?_, ?_, ?_, ?_, ?_, a1⟩
                all_goals (try rw [a2])
                all_goals (first | (simp [go_sem, q0, q1, r0, r1, r2, y0, y1, y2, n0, n1]; done) | (simp [World.setCell]; omega))
              case measure => simp [intOf]; omega
          · have h3' : W < t := by omega
            go_wp2_with fail
            go_ret
            exact ⟨retOf (congrArg Value.bool (rightB_no hA.out HX.out HP.out (by simp [okR, h1, h2]; omega)).symm), hB.symm ▸ hb.trans (((Below.refl _ _).alloc (Nat.le_refl _) _).mono (by omega))⟩
    · have hke : k = l.length := by omega
      subst hke
      have hfin : rightB W H l = decide (l.length ≤ 8192) := by rw [rightB, hA.out]; simp [rightL]
      have HF := Lib.hid hfin
      clear hfin
      go_wp2_with fail
      go_ret
      exact ⟨retOf (congrArg Value.bool (by rw [HF.out]; exact decide_eq_decide.2 (by omega))), hB.symm ▸ hb⟩
end Go.Proofs.Ytnbdnnbeiohmgaa
/- grid.CheckGrid, grid.checked. -/
namespace Go.Proofs.Ytnbdnnbeiohmgaa
open Go.RowKit Go.Shelf Go.Lib

def checkG (W H S : Int) (ld : List R3) : Bool := inB W 1 256 && inB H 1 256 && inB S 1 50000 && rightB W H ld
/-- OK or ErrArg -/
def argE (b : Bool) : Int := if b then 0 else 2
theorem argE_true : argE true = 0 := rfl
theorem argE_false : argE false = 2 := rfl

theorem inB_iff {n lo hi : Int} (h : inB n lo hi = true) : lo ≤ n ∧ n ≤ hi := by
  simp [inB] at h
  exact h

set_option maxHeartbeats 1000000 in
theorem checkGrid_gr (W H S : Int) (vL : Value) (ld : List R3) (w : World) (h : Runs w vL ld) :
    Calls Try.prog 59 #[.agg #[.int .i64 W, .int .i64 H, .int .i64 S, vL]] w fun e w' => e = .returned (.int .i64 (argE (checkG W H S ld))) ∧ Below w.heap.size w w' := by
  have b1 := (Below.refl w.heap.size w).alloc (Nat.le_refl _) (.cells #[.int .i64 W, .int .i64 H, .int .i64 S, vL] 24)
  have h1 : Runs (w.alloc (.cells #[.int .i64 W, .int .i64 H, .int .i64 S, vL] 24)) vL ld := h.alloc _
  go_enter Try.func59, Try.ntmps59
  go_wp2_with fail
  refine (within_gr _ _ _ _).mono ?_
  rintro e w' ⟨rfl, rfl⟩
  cases k1 : inB W 1 256 with
  | false =>
    go_wp2_with fail
    go_ret
    exact ⟨retOf (congrArg (Value.int .i64) (by simp [checkG, k1, argE])), b1⟩
  | true =>
    go_wp2_with fail
    refine (within_gr _ _ _ _).mono ?_
    rintro e w' ⟨rfl, rfl⟩
    cases k2 : inB H 1 256 with
    | false =>
      go_wp2_with fail
      go_ret
      exact ⟨retOf (congrArg (Value.int .i64) (by simp [checkG, k1, k2, argE])), b1⟩
    | true =>
      go_wp2_with fail
      refine (within_gr _ _ _ _).mono ?_
      rintro e w' ⟨rfl, rfl⟩
      cases k3 : inB S 1 50000 with
      | false =>
        go_wp2_with fail
        go_ret
        exact ⟨retOf (congrArg (Value.int .i64) (by simp [checkG, k1, k2, k3, argE])), b1⟩
      | true =>
        have hr := right_gr W H S vL vL ld _ (inB_iff k2) h1
        have HR := Lib.hid hr
        clear hr h h1
        go_wp2_with fail
        refine HR.out.mono ?_
        rintro e w1 ⟨rfl, hb1⟩
        have b2 := b1.trans (hb1.mono (by simp))
        cases k4 : rightB W H ld with
        | false =>
          go_wp2_with fail
          go_ret
          exact ⟨retOf (congrArg (Value.int .i64) (by simp [checkG, k1, k2, k3, k4, argE])), b2⟩
        | true =>
          go_wp2_with fail
          go_ret
          exact ⟨retOf (congrArg (Value.int .i64) (by simp [checkG, k1, k2, k3, k4, argE])), b2⟩

abbrev enc1 : Value → List Value := fun u => [u]

theorem checked1_gr (W H S : Int) (vL v : Value) (l : List R3) (B : Nat) (w : World) (hH : 1 ≤ H ∧ H ≤ 256) (_hB : B < w.heap.size) (c0 : w.cell? ⟨B, 0, none⟩ = some (.int .i64 W)) (c1 : w.cell? ⟨B, 1, none⟩ = some (.int .i64 H))
    (c2 : w.cell? ⟨B, 2, none⟩ = some (.int .i64 S)) (c3 : w.cell? ⟨B, 3, none⟩ = some vL) (h : Runs w v l) :
    Calls Try.prog 103 #[v, .pointer (some ⟨B, 0, none⟩)] w fun e w' => e = .returned (.bool (!rightB W H l)) ∧ Below w.heap.size w w' := by
  have hr := right_gr W H S vL v l w hH h
  have HR := Lib.hid hr
  obtain ⟨A, c, rfl, -⟩ := h
  clear hr
  go_enter Try.func103, Try.ntmps103
  go_wp2_with fail
  refine HR.out.mono ?_
  rintro e w1 ⟨rfl, hb1⟩
  go_wp2_with fail
  go_ret
  exact ⟨rfl, hb1⟩

set_option maxHeartbeats 1000000 in
theorem index_regions (W H S : Int) (vL v : Value) (vs : List Value) (ls : List (List R3)) (B : Nat) (w : World) (hH : 1 ≤ H ∧ H ≤ 256) (hB : B < w.heap.size) (c0 : w.cell? ⟨B, 0, none⟩ = some (.int .i64 W)) (c1 : w.cell? ⟨B, 1, none⟩ = some (.int .i64 H))
    (c2 : w.cell? ⟨B, 2, none⟩ = some (.int .i64 S)) (c3 : w.cell? ⟨B, 3, none⟩ = some vL) (h : Lst 1 enc1 w v vs) (hl : vs.length = ls.length) (hrs : ∀ (i : Nat) u l, vs[i]? = some u → ls[i]? = some l → Runs w u l) :
    Calls Try.prog 152 #[v, .func (.func 103) #[] #[.pointer (some ⟨B, 0, none⟩)]] w fun e w' =>
      (∃ i : Int, e = .returned (.int .i64 i) ∧ (0 ≤ i ↔ ls.any (fun l => !rightB W H l) = true)) ∧ Below w.heap.size w w' := by
  obtain ⟨A, c, rfl, h1, h2, h3⟩ := h
  unfold maxLen at h2
  have HLn := Lib.hid hl
  clear hl
  go_enter Try.func152, Try.ntmps152
  go_wp2_with fail
  go_loopw [8] (fun i wr => ∃ k : Nat, k ≤ vs.length ∧ i = .int .i64 k ∧ Below w.heap.size w wr ∧ Hid (∀ j, j < k → ∀ l, ls[j]? = some l → rightB W H l = true)) (fun i _ => vs.length - (intOf i).toNat)
  case atStart => exact ⟨0, Nat.zero_le _, rfl, Below.refl _ _, fun j hj => by omega⟩
  case round =>
    obtain ⟨k, hk, rfl, hb, hA⟩ := hrel
    by_cases hlt : k < vs.length
    · obtain ⟨b, off, rfl, hbl, hc⟩ := h3 (by omega)
      obtain ⟨u, hu⟩ : ∃ s, vs[k]? = some s := ⟨_, List.getElem?_eq_getElem hlt⟩
      obtain ⟨l, hlk⟩ : ∃ s, ls[k]? = some s := ⟨_, List.getElem?_eq_getElem (by have := HLn.out; omega)⟩
      have hru := (hrs k u l hu hlk).below hb
      have hx := (hb.cell (p := ⟨b, off + k * 1 + 0, none⟩) hbl).trans (hc k 0 u u hu rfl)
      simp only [Nat.mul_one, Nat.add_zero] at hx
      have hcall := checked1_gr W H S vL u l B wr hH (Nat.lt_of_lt_of_le hB hb.size) ((hb.cell (p := ⟨B, 0, none⟩) hB).trans c0) ((hb.cell (p := ⟨B, 1, none⟩) hB).trans c1) ((hb.cell (p := ⟨B, 2, none⟩) hB).trans c2) ((hb.cell (p := ⟨B, 3, none⟩) hB).trans c3) hru
      obtain ⟨Au, cu, rfl, -⟩ := hru
      have HS := Lib.hid hlk
      have HR := Lib.hid hrs
      clear hlk hu hc h3 hrs
      cases hok : rightB W H l with
      | true =>
        rw [hok] at hcall
        have HC := Lib.hid hcall
        have HO := Lib.hid hok
        clear hcall hok
        go_wp2_with fail
        refine HC.out.mono ?_
        rintro e w1 ⟨rfl, hb1⟩
        go_wp2_with fail
        go_roundw
        case rel => exact ⟨k + 1, by omega, by go_num, hb.trans (hb1.mono hb.size), fun j hj s hs => by
          by_cases e : j = k
          · subst e; rw [HS.out] at hs; cases hs; exact HO.out
          · exact hA.out j (by omega) s hs⟩
        case measure => simp [intOf]; omega
      | false =>
        rw [hok] at hcall
        have HC := Lib.hid hcall
        have HO := Lib.hid hok
        clear hcall hok
        go_wp2_with fail
        refine HC.out.mono ?_
        rintro e w1 ⟨rfl, hb1⟩
        go_wp2_with fail
        go_ret
        refine ⟨⟨k, rfl, ?_⟩, hb.trans (hb1.mono hb.size)⟩
        have hm : l ∈ ls := List.mem_of_getElem? HS.out
        have : ls.any (fun l => !rightB W H l) = true := List.any_eq_true.2 ⟨_, hm, by rw [HO.out]; rfl⟩
        simp [this]
    · have hke : k = vs.length := by omega
      subst hke
      have HR := Lib.hid hrs
      clear hrs
      go_wp2_with fail
      go_ret
      refine ⟨⟨-1, rfl, ?_⟩, hb⟩
      have : ls.any (fun l => !rightB W H l) = false := by
        rw [List.any_eq_false]
        intro s hs
        obtain ⟨j, hj, e⟩ := List.getElem_of_mem hs
        have := hA.out j (by have := HLn.out; omega) s (by rw [List.getElem?_eq_getElem hj, e])
        simp [this]
      simp [this]

set_option maxRecDepth 100000 in
set_option maxHeartbeats 1000000 in
theorem contains_regions (W H S : Int) (vL v : Value) (vs : List Value) (ls : List (List R3)) (B : Nat) (w : World) (hH : 1 ≤ H ∧ H ≤ 256) (hB : B < w.heap.size) (c0 : w.cell? ⟨B, 0, none⟩ = some (.int .i64 W)) (c1 : w.cell? ⟨B, 1, none⟩ = some (.int .i64 H))
    (c2 : w.cell? ⟨B, 2, none⟩ = some (.int .i64 S)) (c3 : w.cell? ⟨B, 3, none⟩ = some vL) (h : Lst 1 enc1 w v vs) (hl : vs.length = ls.length) (hrs : ∀ (i : Nat) u l, vs[i]? = some u → ls[i]? = some l → Runs w u l) :
    Calls Try.prog 102 #[v, .func (.func 103) #[] #[.pointer (some ⟨B, 0, none⟩)]] w fun e w' => e = .returned (.bool (!ls.all (rightB W H))) ∧ Below w.heap.size w w' := by
  have hi := index_regions W H S vL v vs ls B w hH hB c0 c1 c2 c3 h hl hrs
  obtain ⟨A, c, rfl, -⟩ := h
  have HI := Lib.hid hi
  clear hi hrs hl c0 c1 c2 c3 hB hH
  go_enter Try.func102, Try.ntmps102
  go_wp2_with fail
  refine HI.out.mono ?_
  rintro e w1 ⟨⟨i, rfl, hi⟩, hb⟩
  have HI2 := Lib.hid hi
  clear hi
  go_wp2_with fail
  go_ret
  refine ⟨retOf ?_, hb⟩
  congr 1
  have e1 : (!ls.all (rightB W H)) = ls.any (fun l => !rightB W H l) := by rw [List.not_all_eq_any_not]
  rw [e1]
  cases hq : ls.any (fun l => !rightB W H l) with
  | true => simp [HI2.out.2 hq]
  | false =>
    have : ¬ 0 ≤ i := fun h0 => by rw [HI2.out.1 h0] at hq; cases hq
    simp [this]

def checkRs (W H S : Int) (ld : List R3) (ls : List (List R3)) : Bool := checkG W H S ld && ls.all (rightB W H)

set_option maxRecDepth 100000 in
set_option maxHeartbeats 1000000 in
theorem checked_gr (W H S : Int) (vL v : Value) (ld : List R3) (vs : List Value) (ls : List (List R3)) (w : World) (hL : Runs w vL ld) (h : Lst 1 enc1 w v vs) (hl : vs.length = ls.length) (hrs : ∀ (i : Nat) u l, vs[i]? = some u → ls[i]? = some l → Runs w u l) :
    Calls Try.prog 51 #[.agg #[.int .i64 W, .int .i64 H, .int .i64 S, vL], v] w fun e w' => e = .returned (.int .i64 (argE (checkRs W H S ld ls))) ∧ Below w.heap.size w w' := by
  have b1 := (Below.refl w.heap.size w).alloc (Nat.le_refl _) (.cells #[.int .i64 W, .int .i64 H, .int .i64 S, vL] 24)
  have hG := checkGrid_gr W H S vL ld (w.alloc (.cells #[.int .i64 W, .int .i64 H, .int .i64 S, vL] 24)) (hL.alloc _)
  have HG := Lib.hid hG
  have HV := Lib.hid h
  have HR := Lib.hid hrs
  obtain ⟨A, c, rfl, -⟩ := h
  have HLn := Lib.hid hl
  clear hG hrs hL hl
  go_enter Try.func51, Try.ntmps51
  go_wp2_with fail
  refine HG.out.mono ?_
  rintro e w1 ⟨rfl, hb1⟩
  have b2 := b1.trans (hb1.mono (by simp))
  have c0 := hb1.cell (p := ⟨w.heap.size, 0, none⟩) (by simp)
  have c1 := hb1.cell (p := ⟨w.heap.size, 1, none⟩) (by simp)
  have c2 := hb1.cell (p := ⟨w.heap.size, 2, none⟩) (by simp)
  have c3 := hb1.cell (p := ⟨w.heap.size, 3, none⟩) (by simp)
  have hz := hb1.size
  simp [go_sem] at c0 c1 c2 c3 hz
  cases k1 : checkG W H S ld with
  | false =>
    rw [argE_false]
    go_wp2_with fail
    go_ret
    exact ⟨retOf (congrArg (Value.int .i64) (by simp [checkRs, k1, argE])), b2⟩
  | true =>
    rw [argE_true]
    have hH : 1 ≤ H ∧ H ≤ 256 := by
      simp only [checkG, Bool.and_eq_true] at k1
      exact inB_iff k1.1.1.2
    have hc := contains_regions W H S vL _ vs ls w.heap.size w1 hH (by omega) c0 c1 c2 c3 (HV.out.below b2) HLn.out (fun i u l hu hl => (HR.out i u l hu hl).below b2)
    have HC := Lib.hid hc
    clear hc hb1
    go_wp2_with fail
    refine HC.out.mono ?_
    rintro e w2 ⟨rfl, hb2⟩
    have b3 := b2.trans (hb2.mono (by omega))
    cases k2 : ls.all (rightB W H) with
    | false =>
      go_wp2_with fail
      go_ret
      exact ⟨retOf (congrArg (Value.int .i64) (by rw [checkRs, k1, k2]; rfl)), b3⟩
    | true =>
      go_wp2_with fail
      go_ret
      exact ⟨retOf (congrArg (Value.int .i64) (by rw [checkRs, k1, k2]; rfl)), b3⟩
end Go.Proofs.Ytnbdnnbeiohmgaa
/- grid.CellOf. -/
namespace Go.Proofs.Ytnbdnnbeiohmgaa
open Go.RowKit Go.Shelf Go.Lib

def cellV (W H S : Int) (ld : List R3) (s : Int × Int) : (Int × Int) × Int :=
  if checkG W H S ld && nearS s then (if inB (s.1 / S) 0 (W - 1) && inB (s.2 / S) 0 (H - 1) then ((s.1 / S, s.2 / S), 0) else ((0, 0), 7)) else ((0, 0), 2)

theorem checkG_iff {W H S : Int} {ld : List R3} (h : checkG W H S ld = true) : (1 ≤ W ∧ W ≤ 256) ∧ (1 ≤ H ∧ H ≤ 256) ∧ (1 ≤ S ∧ S ≤ 50000) ∧ rightB W H ld = true := by
  simp only [checkG, Bool.and_eq_true] at h
  exact ⟨inB_iff h.1.1.1, inB_iff h.1.1.2, inB_iff h.1.2, h.2⟩

set_option maxRecDepth 100000 in
set_option maxHeartbeats 4000000 in
theorem cellOf_gr (W H S x y : Int) (vL : Value) (ld : List R3) (w : World) (h : Runs w vL ld) :
    Calls Try.prog 15 #[.agg #[.int .i64 W, .int .i64 H, .int .i64 S, vL], .agg #[.int .i64 x, .int .i64 y]] w fun e w' =>
      e = .returned (.tuple #[.agg #[.int .i64 (cellV W H S ld (x, y)).1.1, .int .i64 (cellV W H S ld (x, y)).1.2], .int .i64 (cellV W H S ld (x, y)).2]) ∧ Below w.heap.size w w' := by
  have b1 : Below w.heap.size w (((w.alloc (.cells #[.int .i64 W, .int .i64 H, .int .i64 S, vL] 24)).alloc (.cells #[.int .i64 x, .int .i64 y] 26)).alloc (.cells #[.int .i64 0, .int .i64 0] 39)) := (((Below.refl w.heap.size w).alloc (Nat.le_refl _) _).alloc (by simp) _).alloc (by simp; omega) _
  have hG := checkGrid_gr W H S vL ld (((w.alloc (.cells #[.int .i64 W, .int .i64 H, .int .i64 S, vL] 24)).alloc (.cells #[.int .i64 x, .int .i64 y] 26)).alloc (.cells #[.int .i64 0, .int .i64 0] 39)) (h.below b1)
  have HG := Lib.hid hG
  clear hG h
  go_enter Try.func15, Try.ntmps15
  go_wp2_with fail
  refine HG.out.mono ?_
  rintro e w1 ⟨rfl, hb1⟩
  have b2 := b1.trans (hb1.mono (by simp; omega))
  have c0 := hb1.cell (p := ⟨w.heap.size, 0, none⟩) (by simp; omega)
  have c1 := hb1.cell (p := ⟨w.heap.size, 1, none⟩) (by simp; omega)
  have c2 := hb1.cell (p := ⟨w.heap.size, 2, none⟩) (by simp; omega)
  have s0 := hb1.cell (p := ⟨w.heap.size + 1, 0, none⟩) (by simp)
  have s1 := hb1.cell (p := ⟨w.heap.size + 1, 1, none⟩) (by simp)
  have r0 := hb1.cell (p := ⟨w.heap.size + 1 + 1, 0, none⟩) (by simp)
  have r1 := hb1.cell (p := ⟨w.heap.size + 1 + 1, 1, none⟩) (by simp)
  have f0 := hb1.frozen (p := ⟨w.heap.size + 1 + 1, 0, none⟩) (by simp)
  have f1 := hb1.frozen (p := ⟨w.heap.size + 1 + 1, 1, none⟩) (by simp)
  have hz := hb1.size
  simp [go_sem] at c0 c1 c2 s0 s1 r0 r1 f0 f1 hz
  clear HG hb1 b1
  have n0 : w.heap.size < w1.heap.size := by omega
  have n1 : w.heap.size + 1 < w1.heap.size := by omega
  have n2 : w.heap.size + 1 + 1 < w1.heap.size := by omega
  cases k1 : checkG W H S ld with
  | false =>
    rw [argE_false]
    have hE : cellV W H S ld (x, y) = ((0, 0), 2) := by simp [cellV, k1]
    have HE := Lib.hid hE
    clear hE
    go_wp2_with fail
    refine bodyPost_ret (v := .tuple #[.agg #[.int .i64 (0), .int .i64 (0)], .int .i64 2]) (by simp [results, Try.results15, go_sem, r0, r1]) rfl ⟨by rw [HE.out], ?_⟩
    exact ((b2.setCell (p := ⟨w.heap.size + 1 + 1, 0, none⟩) (by simp; omega) _).setCell (p := ⟨w.heap.size + 1 + 1, 1, none⟩) (by simp; omega) _)
  | true =>
    rw [argE_true]
    obtain ⟨hW, hH, hS, -⟩ := checkG_iff k1
    have hlit := fun w' (hw' : w'.heap.size = w1.heap.size) => Lst_lit encS_len w' w1.heap.size 1 hw' #[.int .i64 x, .int .i64 y] [(x, y)] 26 rfl rfl (by unfold maxLen; omega)
    have hN := near_gr (.slice (some ⟨w1.heap.size, 0, none⟩) 1 1) [(x, y)] _ (hlit w1 rfl) (by simp)
    have e1 : [(x, y)].all nearS = nearS (x, y) := by simp
    rw [e1] at hN
    have HN := Lib.hid hN
    clear hN hlit e1
    go_wp2_with fail
    refine HN.out.mono ?_
    rintro e w2 ⟨rfl, hb2⟩
    have b3 : Below w1.heap.size w1 w2 := ((Below.refl _ _).alloc (Nat.le_refl _) _).trans (hb2.mono (by simp))
    have c0 := (b3.cell (p := ⟨w.heap.size, 0, none⟩) n0).trans c0
    have c1 := (b3.cell (p := ⟨w.heap.size, 1, none⟩) n0).trans c1
    have c2 := (b3.cell (p := ⟨w.heap.size, 2, none⟩) n0).trans c2
    have s0 := (b3.cell (p := ⟨w.heap.size + 1, 0, none⟩) n1).trans s0
    have s1 := (b3.cell (p := ⟨w.heap.size + 1, 1, none⟩) n1).trans s1
    have r0 := (b3.cell (p := ⟨w.heap.size + 1 + 1, 0, none⟩) n2).trans r0
    have r1 := (b3.cell (p := ⟨w.heap.size + 1 + 1, 1, none⟩) n2).trans r1
    have f0 := (b3.frozen (p := ⟨w.heap.size + 1 + 1, 0, none⟩) n2).trans f0
    have f1 := (b3.frozen (p := ⟨w.heap.size + 1 + 1, 1, none⟩) n2).trans f1
    have b4 := b2.trans (b3.mono (by omega))
    have hz2 := b3.size
    have n0 : w.heap.size < w2.heap.size := by omega
    have n1 : w.heap.size + 1 < w2.heap.size := by omega
    have n2 : w.heap.size + 1 + 1 < w2.heap.size := by omega
    clear hb2 b3
    cases k2 : nearS (x, y) with
    | false =>
      have hE : cellV W H S ld (x, y) = ((0, 0), 2) := by simp [cellV, k1, k2]
      have HE := Lib.hid hE
      clear hE
      go_wp2_with fail
      refine bodyPost_ret (v := .tuple #[.agg #[.int .i64 (0), .int .i64 (0)], .int .i64 2]) (by simp [results, Try.results15, go_sem, r0, r1]) rfl ⟨by rw [HE.out], ?_⟩
      exact ((b4.setCell (p := ⟨w.heap.size + 1 + 1, 0, none⟩) (by simp; omega) _).setCell (p := ⟨w.heap.size + 1 + 1, 1, none⟩) (by simp; omega) _)
    | true =>
      have k2' := k2
      simp only [nearS, Bool.and_eq_true] at k2'
      have bx := nearC_iff k2'.1
      have by' := nearC_iff k2'.2
      have H1 := Lib.hid (fun w => floor_gr x S w (by omega) hS)
      have H2 := Lib.hid (fun w => floor_gr y S w (by omega) hS)
      have hE : cellV W H S ld (x, y) = if inB (x / S) 0 (W - 1) && inB (y / S) 0 (H - 1) then ((x / S, y / S), 0) else ((0, 0), 7) := by simp only [cellV, k1, k2, Bool.and_self, if_true]
      have HE := Lib.hid hE
      clear hE k2'
      obtain ⟨q1, hq1⟩ : ∃ q, x / S = q := ⟨_, rfl⟩
      obtain ⟨q2, hq2⟩ : ∃ q, y / S = q := ⟨_, rfl⟩
      rw [hq1, hq2] at HE
      rw [hq1] at H1
      rw [hq2] at H2
      clear hq1 hq2
      go_wp2_with fail
      go_region_held3 (fun W' => W'.cell? ⟨w.heap.size, 2, none⟩ = some (.int .i64 S) ∧ W'.cell? ⟨w.heap.size + 1, 0, none⟩ = some (.int .i64 x) ∧ W'.cell? ⟨w.heap.size + 1, 1, none⟩ = some (.int .i64 y))
        (first | exact ⟨c2, s0, s1⟩ | exact ⟨(World.cell?_alloc_lt w2 _ ⟨w.heap.size, 2, none⟩ n0).trans c2, (World.cell?_alloc_lt w2 _ ⟨w.heap.size + 1, 0, none⟩ n1).trans s0, (World.cell?_alloc_lt w2 _ ⟨w.heap.size + 1, 1, none⟩ n1).trans s1⟩ | go_keep)
        (first | (go_at_call 61; first | ((with_reducible refine (H1.out _).mono ?_); rintro e w' ⟨rfl, rfl⟩) | ((with_reducible refine (H2.out _).mono ?_); rintro e w' ⟨rfl, rfl⟩)))
      all_goals
        have b5 : Below w.heap.size w (w2.alloc (.cells #[.int .i64 q1, .int .i64 q2] 39)).drew := belowDrew (b4.alloc (by omega) _)
        rename_i hHeld
        clear hHeld c2 s0 s1
        have c0 : (w2.alloc (.cells #[.int .i64 q1, .int .i64 q2] 39)).drew.cell? ⟨w.heap.size, 0, none⟩ = some (.int .i64 W) := (World.cell?_alloc_lt w2 _ ⟨w.heap.size, 0, none⟩ n0).trans c0
        have c1 : (w2.alloc (.cells #[.int .i64 q1, .int .i64 q2] 39)).drew.cell? ⟨w.heap.size, 1, none⟩ = some (.int .i64 H) := (World.cell?_alloc_lt w2 _ ⟨w.heap.size, 1, none⟩ n0).trans c1
        have r0 : (w2.alloc (.cells #[.int .i64 q1, .int .i64 q2] 39)).drew.cell? ⟨w.heap.size + 1 + 1, 0, none⟩ = some (.int .i64 0) := (World.cell?_alloc_lt w2 _ ⟨w.heap.size + 1 + 1, 0, none⟩ n2).trans r0
        have r1 : (w2.alloc (.cells #[.int .i64 q1, .int .i64 q2] 39)).drew.cell? ⟨w.heap.size + 1 + 1, 1, none⟩ = some (.int .i64 0) := (World.cell?_alloc_lt w2 _ ⟨w.heap.size + 1 + 1, 1, none⟩ n2).trans r1
        have f0 : (w2.alloc (.cells #[.int .i64 q1, .int .i64 q2] 39)).drew.frozen? ⟨w.heap.size + 1 + 1, 0, none⟩ = false := (frozenAllocLt w2 _ ⟨w.heap.size + 1 + 1, 0, none⟩ n2).trans f0
        have f1 : (w2.alloc (.cells #[.int .i64 q1, .int .i64 q2] 39)).drew.frozen? ⟨w.heap.size + 1 + 1, 1, none⟩ = false := (frozenAllocLt w2 _ ⟨w.heap.size + 1 + 1, 1, none⟩ n2).trans f1
        have t0 : (w2.alloc (.cells #[.int .i64 q1, .int .i64 q2] 39)).drew.cell? ⟨w2.heap.size, 0, none⟩ = some (.int .i64 q1) := by simp [go_sem]
        have t1 : (w2.alloc (.cells #[.int .i64 q1, .int .i64 q2] 39)).drew.cell? ⟨w2.heap.size, 1, none⟩ = some (.int .i64 q2) := by simp [go_sem]
        have hz3 : (w2.alloc (.cells #[.int .i64 q1, .int .i64 q2] 39)).drew.heap.size = w2.heap.size + 1 := by simp [go_sem]
        obtain ⟨w3, hw3⟩ : ∃ w3, (w2.alloc (.cells #[.int .i64 q1, .int .i64 q2] 39)).drew = w3 := ⟨_, rfl⟩
        rw [hw3] at b5 c0 c1 r0 r1 f0 f1 t0 t1 hz3 ⊢
        clear hw3
        have n2 : w.heap.size + 1 + 1 < w3.heap.size := by omega
        have e3 : wrap64 (W - 1) = W - 1 := wrapId _ (by omega) (by omega)
        have e4 : wrap64 (H - 1) = H - 1 := wrapId _ (by omega) (by omega)
        go_wp2_with fail
        refine (within_gr _ _ _ _).mono ?_
        rintro e w' ⟨rfl, rfl⟩
        cases k3 : inB q1 0 (W - 1) with
        | false =>
          have HE := Lib.hid (show cellV W H S ld (x, y) = ((0, 0), 7) from HE.out.trans (by simp [k3]))
          go_wp2_with fail
          refine bodyPost_ret (v := .tuple #[.agg #[.int .i64 0, .int .i64 0], .int .i64 7]) (by simp [results, Try.results15, go_sem, r0, r1]) rfl ⟨by rw [HE.out], ?_⟩
          exact ((b5.setCell (p := ⟨w.heap.size + 1 + 1, 0, none⟩) (by simp; omega) _).setCell (p := ⟨w.heap.size + 1 + 1, 1, none⟩) (by simp; omega) _)
        | true =>
          go_wp2_with fail
          refine (within_gr _ _ _ _).mono ?_
          rintro e w' ⟨rfl, rfl⟩
          cases k4 : inB q2 0 (H - 1) with
          | false =>
            have HE := Lib.hid (show cellV W H S ld (x, y) = ((0, 0), 7) from HE.out.trans (by simp [k3, k4]))
            go_wp2_with fail
            refine bodyPost_ret (v := .tuple #[.agg #[.int .i64 0, .int .i64 0], .int .i64 7]) (by simp [results, Try.results15, go_sem, r0, r1]) rfl ⟨by rw [HE.out], ?_⟩
            exact ((b5.setCell (p := ⟨w.heap.size + 1 + 1, 0, none⟩) (by simp; omega) _).setCell (p := ⟨w.heap.size + 1 + 1, 1, none⟩) (by simp; omega) _)
          | true =>
            have HE := Lib.hid (show cellV W H S ld (x, y) = ((q1, q2), 0) from HE.out.trans (by simp [k3, k4]))
            go_wp2_with fail
            refine bodyPost_ret (v := .tuple #[.agg #[.int .i64 q1, .int .i64 q2], .int .i64 0]) (by simp [results, Try.results15, go_sem, r0, r1]) rfl ⟨by rw [HE.out], ?_⟩
            exact ((b5.setCell (p := ⟨w.heap.size + 1 + 1, 0, none⟩) (by simp; omega) _).setCell (p := ⟨w.heap.size + 1 + 1, 1, none⟩) (by simp; omega) _)

end Go.Proofs.Ytnbdnnbeiohmgaa
/- A table of spans, row by row; grid's table.add. -/
namespace Go.Proofs.Ytnbdnnbeiohmgaa
open Go.RowKit Go.Shelf

/-- the table in block b: its rows' slices, and what they read as -/
structure Tab (w : World) (b : Nat) (vs : Nat → Value) (f : Nat → List (Int × Int)) : Prop where
  lt : b < w.heap.size
  cell : ∀ i, i < 256 → w.cell? ⟨b, i, none⟩ = some (vs i)
  fz : ∀ i, i < 256 → w.frozen? ⟨b, i, none⟩ = false
  own : ∀ i, i < 256 → w.ownsRow (b + 1) 176 2 (vs i) (f i).length (flatE encS (f i))
  apart : ∀ i j, i < 256 → j < 256 → i ≠ j → ∀ g, (vs i).ownBlock = some g → (vs j).ownBlock ≠ some g

def upd {α : Type} (f : Nat → α) (n : Nat) (x : α) : Nat → α := fun i => if i = n then x else f i
theorem upd_same {α : Type} (f : Nat → α) (n : Nat) (x : α) : upd f n x n = x := by simp [upd]
theorem upd_other {α : Type} (f : Nat → α) {n i : Nat} (x : α) (h : i ≠ n) : upd f n x i = f i := by simp [upd, h]

theorem Tab.below {w w' : World} {b : Nat} {vs : Nat → Value} {f : Nat → List (Int × Int)} (h : Tab w b vs f) (hb : Below w.heap.size w w') : Tab w' b vs f where
  lt := Nat.lt_of_lt_of_le h.lt hb.size
  cell i hi := (hb.cell (p := ⟨b, i, none⟩) h.lt).trans (h.cell i hi)
  fz i hi := (hb.frozen (p := ⟨b, i, none⟩) h.lt).trans (h.fz i hi)
  own i hi := ownsBelow (h.own i hi) hb
  apart := h.apart

theorem newsLit {W : World} {B : Nat} {cs : Array Value} {t : TypeId} (h : W.heap.size = B) : ∀ j u, cs.toList[j]? = some u → (W.alloc (.cells cs t)).cell? ((⟨B, 0, none⟩ : Addr).add j) = some u := by
  subst h
  exact World.news_of_block (fr := (0, 0)) (heap_alloc_new W _)

theorem ownBlock_lt {w : World} {base : Nat} {e : TypeId} {size n g : Nat} {v : Value} {xs : List Value} (h : w.ownsRow base e size v n xs) (hg : v.ownBlock = some g) : base ≤ g ∧ g < w.heap.size := by
  rcases h.2 with ⟨rfl, -⟩ | ⟨g', cap, cur, rfl, hb, hh, -⟩
  · simp [Value.ownBlock] at hg
  · simp [Value.ownBlock] at hg
    subst hg
    refine ⟨hb, ?_⟩
    rcases Nat.lt_or_ge g' w.heap.size with h | h
    · exact h
    · rw [Array.getElem?_eq_none h] at hh
      cases hh

theorem ownsSet {w : World} {base : Nat} {e : TypeId} {size n : Nat} {v : Value} {xs : List Value} (h : w.ownsRow base e size v n xs) {a : Addr} (ha : a.block < base) (u : Value) : (w.setCell a u).ownsRow base e size v n xs := by
  refine ⟨h.1, ?_⟩
  rcases h.2 with h1 | ⟨g, cap, cur, rfl, hb, hh, hr⟩
  · exact .inl h1
  · refine .inr ⟨g, cap, cur, rfl, hb, ?_, hr⟩
    rw [Below.heap_setCell _ _ _ _ (by omega)]
    exact hh

/-- a row grown by an element, its slice laid back into the table -/
theorem Tab.put {w w3 : World} {b : Nat} {vs : Nat → Value} {f : Nat → List (Int × Int)} (h : Tab w b vs f) {n : Nat} (hn : n < 256) {g cap : Nat} {l : List (Int × Int)} (hg : w.grownBy w3 (vs n).ownBlock) (hown : w3.ownsRow (b + 1) 176 2 (.slice (some ⟨g, 0, none⟩) l.length cap) l.length (flatE encS l))
    (hor : (vs n).ownBlock = some g ∨ w.heap.size ≤ g) : Tab (w3.setCell ⟨b, n, none⟩ (.slice (some ⟨g, 0, none⟩) l.length cap)) b (upd vs n (.slice (some ⟨g, 0, none⟩) l.length cap)) (upd f n l) := by
  have hkeep : ∀ k, k < w.heap.size → some k ≠ (vs n).ownBlock → w3.heap[k]? = w.heap[k]? := hg.block
  have hbn : some b ≠ (vs n).ownBlock := fun e => by have := (ownBlock_lt (h.own n hn) e.symm).1; omega
  have hb3 := hkeep b h.lt hbn
  have hc3 : ∀ i, i < 256 → w3.cell? ⟨b, i, none⟩ = some (vs i) := fun i hi => (World.cell?_of_block (a := ⟨b, i, none⟩) hb3).trans (h.cell i hi)
  have hf3 : ∀ i, i < 256 → w3.frozen? ⟨b, i, none⟩ = false := fun i hi => (World.frozen?_of_block (a := ⟨b, i, none⟩) hb3).trans (h.fz i hi)
  refine ⟨?_, fun i hi => ?_, fun i hi => ?_, fun i hi => ?_, fun i j hi hj hij g' hgi => ?_⟩
  · have := hg.size; have := h.lt; simp [World.setCell]; omega
  · by_cases e : i = n
    · subst e
      rw [upd_same]
      have hb3' : b < w3.heap.size := Nat.lt_of_lt_of_le h.lt hg.size
      simp [go_sem, hc3 i hi]
    · rw [upd_other _ _ e]
      have : (⟨b, n, none⟩ : Addr) ≠ ⟨b, i, none⟩ := by intro hh; cases hh; exact e rfl
      simp [go_sem, hc3 i hi]
  · simp [go_sem, hf3 i hi]
  · by_cases e : i = n
    · subst e
      rw [upd_same, upd_same]
      exact ownsSet hown (by simp) _
    · rw [upd_other _ _ e, upd_other _ _ e]
      refine ownsSet ((h.own i hi).kept hg ?_) (by simp) _
      cases hv : (vs i).ownBlock with
      | none => exact .inl rfl
      | some g2 => exact .inr fun hh => h.apart i n hi hn e g2 hv hh.symm
  · by_cases e : i = n
    · subst e
      rw [upd_same] at hgi
      rw [upd_other _ _ (Ne.symm hij)]
      simp [Value.ownBlock] at hgi
      subst hgi
      intro hj2
      rcases hor with h1 | h1
      · exact h.apart i j hi hj hij g h1 hj2
      · have := (ownBlock_lt (h.own j hj) hj2).2; omega
    · rw [upd_other _ _ e] at hgi
      by_cases e2 : j = n
      · subst e2
        rw [upd_same]
        simp only [Value.ownBlock, ne_eq, Option.some.injEq]
        intro hh
        subst hh
        rcases hor with h1 | h1
        · exact h.apart i j hi hj hij g hgi h1
        · have := (ownBlock_lt (h.own i hi) hgi).2; omega
      · rw [upd_other _ _ e2]
        exact h.apart i j hi hj hij g' hgi
end Go.Proofs.Ytnbdnnbeiohmgaa
/- grid's table.add. -/
namespace Go.Proofs.Ytnbdnnbeiohmgaa
open Go.RowKit Go.Shelf

theorem infoSpan : (Try.prog.info? 176).map (fun i => (i.zero, i.size, i.bytes)) = some (some (.agg #[.int .i64 0, .int .i64 0]), 2, 16) := by kernel_rfl

def addOK (W H y a t : Int) : Bool := inB y 0 (H - 1) && decide (max 0 a < min t W)
/-- the table behind add -/
def addF (W H y a t : Int) (f : Nat → List (Int × Int)) : Nat → List (Int × Int) := if addOK W H y a t then upd f y.toNat (f y.toNat ++ [(max 0 a, min t W)]) else f
theorem addF_no {W H y a t : Int} {f : Nat → List (Int × Int)} (h : addOK W H y a t = false) : addF W H y a t f = f := by simp [addF, h]
theorem addF_yes {W H y a t : Int} {f : Nat → List (Int × Int)} (h : addOK W H y a t = true) : addF W H y a t f = upd f y.toNat (f y.toNat ++ [(max 0 a, min t W)]) := by simp [addF, h]

/-- what is no part of the table stays -/
def Untouched (w w' : World) (b : Nat) (vs vs' : Nat → Value) : Prop :=
  ∀ j, j < w.heap.size → j ≠ b → (∀ i, i < 256 → (vs i).ownBlock ≠ some j) → w'.heap[j]? = w.heap[j]? ∧ ∀ i, i < 256 → (vs' i).ownBlock ≠ some j

set_option maxRecDepth 100000 in
set_option maxHeartbeats 4000000 in
theorem add_gr (W H S y a t : Int) (vL : Value) (b : Nat) (vs : Nat → Value) (f : Nat → List (Int × Int)) (w : World) (_hW : 1 ≤ W ∧ W ≤ 256) (hH : 1 ≤ H ∧ H ≤ 256) (h : Tab w b vs f) (hf : ∀ i, i < 256 → (f i).length ≤ 1000000000) :
    Calls Try.prog 54 #[.pointer (some ⟨b, 0, none⟩), .agg #[.int .i64 W, .int .i64 H, .int .i64 S, vL], .int .i64 y, .int .i64 a, .int .i64 t] w fun e w' =>
      e = .returned (.tuple #[]) ∧ (∃ vs', Tab w' b vs' (addF W H y a t f) ∧ Untouched w w' b vs vs') ∧ Below b w w' := by
  have hbl := h.lt
  have b1 : Below b w (w.alloc (.cells #[.int .i64 W, .int .i64 H, .int .i64 S, vL] 24)) := (Below.refl b w).alloc (by omega) _
  have h1 : Tab (w.alloc (.cells #[.int .i64 W, .int .i64 H, .int .i64 S, vL] 24)) b vs f := h.below ((Below.refl _ w).alloc (Nat.le_refl _) _)
  have bw1 : Below w.heap.size w (w.alloc (.cells #[.int .i64 W, .int .i64 H, .int .i64 S, vL] 24)) := (Below.refl _ w).alloc (Nat.le_refl _) _
  have zw1 : w.heap.size ≤ (w.alloc (.cells #[.int .i64 W, .int .i64 H, .int .i64 S, vL] 24)).heap.size := by simp
  go_enter Try.func54, Try.ntmps54
  go_wp2_with fail
  have c0 : (w.alloc (.cells #[.int .i64 W, .int .i64 H, .int .i64 S, vL] 24)).cell? ⟨w.heap.size, 0, none⟩ = some (.int .i64 W) := by simp [go_sem]
  have c1 : (w.alloc (.cells #[.int .i64 W, .int .i64 H, .int .i64 S, vL] 24)).cell? ⟨w.heap.size, 1, none⟩ = some (.int .i64 H) := by simp [go_sem]
  have z1 : w.heap.size < (w.alloc (.cells #[.int .i64 W, .int .i64 H, .int .i64 S, vL] 24)).heap.size := by simp
  obtain ⟨w1, hw1⟩ : ∃ w1, w.alloc (.cells #[.int .i64 W, .int .i64 H, .int .i64 S, vL] 24) = w1 := ⟨_, rfl⟩
  rw [hw1] at b1 bw1 zw1 h1 c0 c1 z1 ⊢
  clear hw1 h
  obtain ⟨B, hB⟩ : ∃ B, w.heap.size = B := ⟨_, rfl⟩
  rw [hB] at c0 c1 z1 hbl ⊢
  clear hB
  go_quiet (fail)
  obtain ⟨w2, hw2⟩ : ∃ w2, w1.drewN nq = w2 := ⟨_, rfl⟩
  have hwb : Below w1.heap.size w1 w2 := by rw [← hw2]; exact belowDrewN (Below.refl _ _) _
  rw [hw2]
  clear hw2
  have b2 := b1.trans (hwb.mono (by have := h1.lt; omega))
  have bw := bw1.trans (hwb.mono (by omega))
  have h2 := h1.below hwb
  have c0 := (hwb.cell (p := ⟨B, 0, none⟩) z1).trans c0
  have c1 := (hwb.cell (p := ⟨B, 1, none⟩) z1).trans c1
  have z1 := Nat.lt_of_lt_of_le z1 hwb.size
  clear hwb b1 h1
  have eH : wrap64 (H - 1) = H - 1 := wrapId _ (by omega) (by omega)
  obtain ⟨A, hA⟩ : ∃ A, max 0 a = A := ⟨_, rfl⟩
  obtain ⟨T, hT⟩ : ∃ T, min t W = T := ⟨_, rfl⟩
  rw [hA, hT]
  go_wp2_with fail
  refine (within_gr _ _ _ _).mono ?_
  rintro e w' ⟨rfl, rfl⟩
  cases k1 : inB y 0 (H - 1) with
  | false =>
    have hno := Lib.hid (addF_no (f := f) (show addOK W H y a t = false by simp [addOK, k1]))
    go_wp2_with fail
    go_end0
    exact ⟨rfl, ⟨vs, by rw [hno.out]; exact h2, fun j hj _ hv => ⟨bw.block j hj, hv⟩⟩, b2⟩
  | true =>
    by_cases k2 : A < T
    · obtain ⟨n, rfl⟩ : ∃ n : Nat, y = n := ⟨y.toNat, by have := inB_iff k1; omega⟩
      have hn : n < 256 := by have := inB_iff k1; omega
      have hyes := Lib.hid (addF_yes (f := f) (show addOK W H n a t = true by simp [addOK, k1, hA, hT, k2]))
      rw [hA, hT, Int.toNat_natCast] at hyes
      have hc := h2.cell n hn
      have hfz := h2.fz n hn
      have hown := h2.own n hn
      have hlt := h2.lt
      have hfn := hf n hn
      obtain ⟨i0, hi, hz0, hz1, hz2⟩ := info_parts infoSpan
      have hn1 : (n : Int) < 256 := by omega
      have hn2 : (0 : Int) ≤ n := by omega
      obtain ⟨vn, hvn⟩ : ∃ v, vs n = v := ⟨_, rfl⟩
      rw [hvn] at hc hown
      have hne : some b ≠ vn.ownBlock := fun e => by have := (ownBlock_lt hown e.symm).1; omega
      go_wp2_with fail
      go_region_law (first | (refine step_append_lies _ (by rfl) _ _ _ (by rfl) (b + 1) 176 i0 _ 2 16 Try.underlying98 hi hz0 hz1 hz2 rfl (by omega) vn (f n).length (flatE encS (f n)) (by rfl) (hown.drew.alloc _) ⟨w2.heap.size, 0, none⟩ 1 1 [.int .i64 A, .int .i64 T] (by rfl) (by rfl) (World.news_of_block (cs := #[.int .i64 A, .int .i64 T]) (t := 176) (fr := (0, 0)) (heap_alloc_new w2.drew _)) (by simp [Value.oneCell']) (by omega) (by unfold maxLen; omega) (by omega) (by simp; omega) (w2.heap.size + 1) (by simp) ?_; intro g cap w6 hown6 hgrow6 hat6 hlt6; have hkc : w6.cell? ⟨b, n, none⟩ = some vn := (hgrow6.cell_far ⟨b, n, none⟩ (by simp; omega) hne).trans ((World.cell?_alloc_lt w2 _ ⟨b, n, none⟩ hlt).trans hc); have hkf : w6.frozen? ⟨b, n, none⟩ = false := (hgrow6.frozen_far ⟨b, n, none⟩ (by simp; omega) hne).trans ((frozenAllocLt w2 _ ⟨b, n, none⟩ hlt).trans hfz)))
      all_goals
        go_end0
        refine ⟨rfl, ?_, ?_⟩
        · rw [hyes.out]
          have hal : Tab (w2.alloc (.cells #[.int .i64 A, .int .i64 T] 176)) b vs f := h2.below ((Below.refl _ _).alloc (Nat.le_refl _) _)
          have hg' : (w2.alloc (.cells #[.int .i64 A, .int .i64 T] 176)).grownBy w6 (vs n).ownBlock := by rw [hvn]; exact ⟨hgrow6.os, hgrow6.tape, hgrow6.output, hgrow6.size, hgrow6.block⟩
          have hl1 : (f n ++ [(A, T)]).length = (f n).length + 1 := by simp
          have hput := hal.put (l := f n ++ [(A, T)]) (cap := cap) hn hg' (by rw [hl1, flatE_append]; exact hown6) (by
            rw [hvn]
            rcases hat6 with h | h
            · exact .inl h
            · exact .inr (by simp; omega))
          rw [hl1] at hput
          refine ⟨_, hput, fun j hj hjb hv => ⟨?_, fun i hi => ?_⟩⟩
          · rw [Below.heap_setCell _ _ _ _ hjb]
            have hjw : j < w2.heap.size := Nat.lt_of_lt_of_le hj bw.size
            have e1 := hgrow6.block j (by simp; omega) (fun e => hv n hn (by rw [hvn]; exact e.symm))
            exact (e1.trans (Below.heap_alloc w2.drew _ j hjw)).trans (bw.block j hj)
          · by_cases e : i = n
            · subst e
              rw [upd_same]
              simp only [Value.ownBlock, ne_eq, Option.some.injEq]
              intro hgj
              subst hgj
              rcases hat6 with h | h
              · exact hv i hi (by rw [hvn]; exact h)
              · have := bw.size; omega
            · rw [upd_other _ _ e]
              exact hv i hi
        · refine Below.setCell ?_ (by simp) _
          exact ((b2.alloc (by omega) _).grown ⟨hgrow6.os, hgrow6.tape, hgrow6.output, hgrow6.size, hgrow6.block⟩ (by simp; omega) (fun k hk => by have := (ownBlock_lt hown hk).1; omega))
    · have hno := Lib.hid (addF_no (f := f) (show addOK W H y a t = false by simp [addOK, k1, hA, hT, k2]))
      have k2' : T ≤ A := by omega
      go_wp2_with fail
      go_end0
      exact ⟨rfl, ⟨vs, by rw [hno.out]; exact h2, fun j hj _ hv => ⟨bw.block j hj, hv⟩⟩, b2⟩
end Go.Proofs.Ytnbdnnbeiohmgaa
