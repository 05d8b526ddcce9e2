/- Lists in the memory; small laws; the smallest functions of package share. -/
import Derived.WalkKit
import Derived.WalkLawsBesides
import Derived.WalkSpells
import Derived.Lib.Hide
import Derived.BigQuiet
import Derived.Deep.QuietTactic
import Derived.Deep.Draws
import Derived.Deep.RegionHeld3
import Derived.Deep.AppendLies
import Derived.Deep.RegionLaw
import Derived.Deep.Cut
import Derived.Test.YtngigogaiheckaaProg
import Derived.Test.YtngigogaiheckaaShWorld
namespace Go.Proofs.Ytngigogaiheckaa
open Go.RowKit Go.Lib

def inB (n lo hi : Int) : Bool := decide (lo ≤ n) && decide (n ≤ hi)
theorem retOf {v u : Value} (h : v = u) : Ending.returned v = .returned u := by rw [h]
theorem belowDrewN {B : Nat} {a w : World} (h : Below B a w) (n : Nat) : Below B a (w.drewN n) := ⟨h.os, h.tape, h.output, h.size, h.block⟩
theorem belowDrew {B : Nat} {a w : World} (h : Below B a w) : Below B a w.drew := ⟨h.os, h.tape, h.output, h.size, h.block⟩
theorem wrapId (e : Int) (h1 : -9223372036854775808 ≤ e) (h2 : e ≤ 9223372036854775807) : wrap64 e = e := by
  unfold wrap64
  omega

theorem wrapK (e : Int) (h1 : -9223372036854775808 ≤ e) (h2 : e ≤ 9223372036854775807) : IntKind.i64.wrap e = e := by
  rw [IntWalk.i64_left]
  exact wrapId e h1 h2


/-- the slice value v reads as the list l, an element in k cells -/
def Lst {α : Type} (k : Nat) (enc : α → List Value) (w : World) (v : Value) (l : List α) : Prop :=
  ∃ A c, v = .slice A l.length c ∧ l.length ≤ c ∧ c ≤ maxLen ∧ (0 < l.length → ∃ b off, A = some ⟨b, off, none⟩ ∧ b < w.heap.size ∧
    ∀ (j i : Nat) (x : α) (u : Value), l[j]? = some x → (enc x)[i]? = some u → w.cell? ⟨b, off + j * k + i, none⟩ = some u)

section
variable {α : Type} {k : Nat} {enc : α → List Value}
theorem Lst.keep {w w' : World} {v : Value} {l : List α} (h : Lst k enc w v l) (hs : w.heap.size ≤ w'.heap.size) (hk : ∀ p : Addr, p.block < w.heap.size → w'.cell? p = w.cell? p) : Lst k enc w' v l := by
  obtain ⟨A, c, e, h1, h2, h3⟩ := h
  refine ⟨A, c, e, h1, h2, fun h0 => ?_⟩
  obtain ⟨b, off, e', hb, hc⟩ := h3 h0
  exact ⟨b, off, e', by omega, fun j i x u hj hi => (hk ⟨b, off + j * k + i, none⟩ hb).trans (hc j i x u hj hi)⟩
theorem Lst.below {w w' : World} {v : Value} {l : List α} (h : Lst k enc w v l) (hb : Below w.heap.size w w') : Lst k enc w' v l := h.keep hb.size fun _ hp => hb.cell hp
theorem Lst.alloc {w : World} {v : Value} {l : List α} (h : Lst k enc w v l) (o : Obj) : Lst k enc (w.alloc o) v l := h.below ((Below.refl _ _).alloc (Nat.le_refl _) _)
theorem Lst.drew {w : World} {v : Value} {l : List α} (h : Lst k enc w v l) : Lst k enc w.drew v l := h
theorem Lst.nil (w : World) : Lst k enc w (.slice none 0 0) ([] : List α) := ⟨none, 0, rfl, Nat.le_refl _, by unfold maxLen; omega, fun h => by simp at h⟩
/-- the list behind its first element -/
theorem Lst.tail {w : World} {x : α} {l : List α} {A : Option Addr} {n c : Nat} (h : Lst k enc w (.slice A n c) (x :: l)) : ∃ b off, A = some ⟨b, off, none⟩ ∧ Lst k enc w (.slice (some ⟨b, off + k, none⟩) (n - 1) (c - 1)) l := by
  obtain ⟨A', c', e, h1, h2, h3⟩ := h
  cases e
  obtain ⟨b, off, e', hb, hc⟩ := h3 (by simp)
  refine ⟨b, off, e', _, _, rfl, ?_, by omega, fun h0 => ⟨b, off + k, rfl, hb, fun j i y u hj hi => ?_⟩⟩
  · simp at h1; omega
  · have := hc (j + 1) i y u (by simpa using hj) hi
    rw [show off + k + j * k + i = off + (j + 1) * k + i by rw [Nat.add_mul]; omega]
    exact this
theorem Lst.len {w : World} {l : List α} {A : Option Addr} {n c : Nat} (h : Lst k enc w (.slice A n c) l) : n = l.length := by
  obtain ⟨A', c', e, -⟩ := h
  cases e
  rfl

/-- the cells of a list -/
def flatE (enc : α → List Value) (l : List α) : List Value := l.flatMap enc
theorem flatE_append (l m : List α) : flatE enc (l ++ m) = flatE enc l ++ flatE enc m := by simp [flatE]
theorem flatE_length (hk : ∀ x, (enc x).length = k) (l : List α) : (flatE enc l).length = l.length * k := by
  induction l with
  | nil => simp [flatE]
  | cons a l ih => simp only [flatE, List.flatMap_cons, List.length_append, List.length_cons] at ih ⊢; rw [ih, hk, Nat.add_mul]; omega
theorem flatE_get (hk : ∀ x, (enc x).length = k) (l : List α) : ∀ (j i : Nat) (x : α) (u : Value), l[j]? = some x → (enc x)[i]? = some u → (flatE enc l)[j * k + i]? = some u := by
  induction l with
  | nil => intro j i x u h; simp at h
  | cons a l ih =>
    intro j i x u h hu
    have hi : i < k := by
      have := (List.getElem?_eq_some_iff.1 hu).1
      rw [hk] at this
      exact this
    cases j with
    | zero =>
      simp at h
      subst h
      simp only [flatE, List.flatMap_cons, Nat.zero_mul, Nat.zero_add]
      rw [List.getElem?_append_left (by rw [hk]; exact hi)]
      exact hu
    | succ j =>
      have := ih j i x u (by simpa using h) hu
      simp only [flatE, List.flatMap_cons] at this ⊢
      rw [List.getElem?_append_right (by rw [hk, Nat.add_mul]; omega), hk, show (j + 1) * k + i - k = j * k + i by rw [Nat.add_mul]; omega]
      exact this
/-- a row of the call's own reads as a list -/
theorem Lst_of_own (hk : ∀ x, (enc x).length = k) {w : World} {base : Nat} {e : TypeId} {v : Value} {n : Nat} {l : List α} (h : w.ownsRow base e k v n (flatE enc l)) (hn : n = l.length) : Lst k enc w v l := by
  subst hn
  rcases Nat.eq_zero_or_pos l.length with h0 | h0
  · have hl : l = [] := List.eq_nil_of_length_eq_zero h0
    subst hl
    rcases h.2 with ⟨rfl, _⟩ | ⟨g, cap, cur, rfl, _, hh, _, hm, _⟩
    · exact ⟨none, 0, rfl, Nat.le_refl _, by unfold maxLen; omega, fun h => absurd h (by simp)⟩
    · exact ⟨_, cap, rfl, by simp, by omega, fun h => absurd h (by simp)⟩
  · obtain ⟨g, cap, rfl, hb, hlt⟩ := h.form h0
    have hc := h.cells (g := g) rfl
    rcases h.2 with ⟨_, h1⟩ | ⟨g', cap', cur, hv, _, hh, hnc, hm, _⟩
    · omega
    · cases hv
      refine ⟨_, cap, rfl, hnc, by omega, fun _ => ⟨g, 0, rfl, hlt, fun j i x u hj hi => ?_⟩⟩
      have a1 := hc _ _ (flatE_get hk l j i x u hj hi)
      have ad : ∀ j, (⟨g, 0, none⟩ : Addr).add j = ⟨g, 0 + j, none⟩ := fun j => by unfold Addr.add; split <;> simp_all
      rw [ad] at a1
      rw [Nat.add_assoc]
      exact a1
/-- a literal, in a block of its own -/
theorem Lst_lit (hk : ∀ x, (enc x).length = k) (w : World) (B n : Nat) (hB : w.heap.size = B) (cs : Array Value) (l : List α) (e : TypeId) (hc : cs.toList = flatE enc l) (hn : n = l.length) (hm : n ≤ maxLen) : Lst k enc (w.alloc (.cells cs e)) (.slice (some ⟨B, 0, none⟩) n n) l := by
  subst hB
  have hs : cs.size = n * k := by rw [← Array.length_toList, hc, flatE_length hk, hn]
  have h := World.ownsRow_lit (base := 0) (e := e) (size := k) w cs n (Nat.zero_le _) hm hs
  rw [hc] at h
  exact Lst_of_own hk h hn
end

theorem belowGrown {w w' : World} (h : Below w.heap.size w w') : w.grownBy w' none := ⟨h.os, h.tape, h.output, h.size, fun i hi _ => h.block i hi⟩
theorem ownsBelow {w w' : World} {base : Nat} {e : TypeId} {size : Nat} {v : Value} {n : Nat} {xs : List Value} (h : w.ownsRow base e size v n xs) (hb : Below w.heap.size w w') : w'.ownsRow base e size v n xs :=
  h.kept (belowGrown hb) (by cases hv : v.ownBlock <;> simp)

theorem frozenAllocLt (w : World) (o : Obj) (p : Addr) (h : p.block < w.heap.size) : (w.alloc o).frozen? p = w.frozen? p := ((Below.refl w.heap.size w).alloc (Nat.le_refl _) o).frozen h

theorem newsLit {W : World} {B : Nat} {cs : Array Value} {t : TypeId} (h : W.heap.size = B) : ∀ j u, cs.toList[j]? = some u → (W.alloc (.cells cs t)).cell? ((⟨B, 0, none⟩ : Addr).add j) = some u := by
  subst h
  exact World.news_of_block (fr := (0, 0)) (heap_alloc_new W _)

theorem ownBlock_lt {w : World} {base : Nat} {e : TypeId} {size n g : Nat} {v : Value} {xs : List Value} (h : w.ownsRow base e size v n xs) (hg : v.ownBlock = some g) : base ≤ g ∧ g < w.heap.size := by
  rcases h.2 with ⟨rfl, -⟩ | ⟨g', cap, cur, rfl, hb, hh, -⟩
  · simp [Value.ownBlock] at hg
  · simp [Value.ownBlock] at hg
    subst hg
    refine ⟨hb, ?_⟩
    rcases Nat.lt_or_ge g' w.heap.size with h | h
    · exact h
    · rw [Array.getElem?_eq_none h] at hh
      cases hh

theorem ownsSet {w : World} {base : Nat} {e : TypeId} {size n : Nat} {v : Value} {xs : List Value} (h : w.ownsRow base e size v n xs) {a : Addr} (ha : a.block < base) (u : Value) : (w.setCell a u).ownsRow base e size v n xs := by
  refine ⟨h.1, ?_⟩
  rcases h.2 with h1 | ⟨g, cap, cur, rfl, hb, hh, hr⟩
  · exact .inl h1
  · refine .inr ⟨g, cap, cur, rfl, hb, ?_, hr⟩
    rw [Below.heap_setCell _ _ _ _ (by omega)]
    exact hh

theorem ownsSetO {w : World} {base : Nat} {e : TypeId} {size n : Nat} {v : Value} {xs : List Value} (h : w.ownsRow base e size v n xs) {a : Addr} (ha : v.ownBlock ≠ some a.block) (u : Value) : (w.setCell a u).ownsRow base e size v n xs := by
  refine ⟨h.1, ?_⟩
  rcases h.2 with h1 | ⟨g, cap, cur, rfl, hb, hh, hr⟩
  · exact .inl h1
  · refine .inr ⟨g, cap, cur, rfl, hb, ?_, hr⟩
    rw [Below.heap_setCell _ _ _ _ (fun e => ha (by simp [Value.ownBlock, e]))]
    exact hh

theorem ownsMono {w : World} {base base' : Nat} {e : TypeId} {size n : Nat} {v : Value} {xs : List Value} (h : w.ownsRow base e size v n xs) (hb : base' ≤ base) : w.ownsRow base' e size v n xs := by
  refine ⟨h.1, ?_⟩
  rcases h.2 with h1 | ⟨g, cap, cur, rfl, hg, hr⟩
  · exact .inl h1
  · exact .inr ⟨g, cap, cur, rfl, Nat.le_trans hb hg, hr⟩

theorem grownThen {w w1 w2 : World} {row : Option Nat} (h : w.grownBy w1 row) (hb : Below w1.heap.size w1 w2) : w.grownBy w2 row :=
  ⟨hb.os.trans h.os, hb.tape.trans h.tape, hb.output.trans h.output, Nat.le_trans h.size hb.size, fun k hk hne => (hb.block k (Nat.lt_of_lt_of_le hk h.size)).trans (h.block k hk hne)⟩
theorem flatE_inv {α : Type} {enc : α → List Value} {k : Nat} (hk : ∀ x, (enc x).length = k) (h0 : 0 < k) {l : List α} {j : Nat} {u : Value} (h : (flatE enc l)[j]? = some u) : ∃ x, l[j / k]? = some x ∧ (enc x)[j % k]? = some u := by
  have hlt : j < (flatE enc l).length := (List.getElem?_eq_some_iff.1 h).1
  rw [flatE_length hk] at hlt
  have hd : j / k < l.length := Nat.div_lt_of_lt_mul (by rw [Nat.mul_comm]; exact hlt)
  have hm := Nat.mod_lt j h0
  obtain ⟨x, hx⟩ : ∃ x, l[j / k]? = some x := ⟨_, List.getElem?_eq_getElem hd⟩
  obtain ⟨v, hv⟩ : ∃ v, (enc x)[j % k]? = some v := ⟨_, List.getElem?_eq_getElem (by rw [hk x]; exact hm)⟩
  have h2 := flatE_get hk l (j / k) (j % k) x v hx hv
  rw [show j / k * k + j % k = j by rw [Nat.mul_comm]; exact Nat.div_add_mod j k] at h2
  rw [h] at h2
  exact ⟨x, hx, by rw [hv]; exact h2.symm⟩
theorem add_pl (b o j : Nat) : (⟨b, o, none⟩ : Addr).add j = ⟨b, o + j, none⟩ := by
  unfold Addr.add
  split <;> simp_all

theorem within_sh (n lo hi : Int) (w : World) : Calls Try.prog 36 #[.int .i64 n, .int .i64 lo, .int .i64 hi] w fun e w' => e = .returned (.bool (inB n lo hi)) ∧ w = w' := by
  go_enter Try.func36, Try.ntmps36
  go_wp2
  · go_ret
    have h : lo ≤ n := by assumption
    exact ⟨by simp [inB, h], rfl⟩
  · go_ret
    have h : n < lo := by assumption
    have h' : ¬ lo ≤ n := by omega
    exact ⟨by simp [inB, h'], rfl⟩

end Go.Proofs.Ytngigogaiheckaa
