/- Slices, as lists; runs; ContainsFunc. -/
import Derived.Test.YtnbdnnbeiohmgaaGrLeaf2
import Derived.Test.YtnbdnnbeiohmgaaShelf
import Derived.Deep.AppendLies
namespace Go.Proofs.Ytnbdnnbeiohmgaa
open Go.RowKit Go.Shelf Go.Lib

/-- the slice value v reads as the list l, an element in k cells -/
def Lst {α : Type} (k : Nat) (enc : α → List Value) (w : World) (v : Value) (l : List α) : Prop :=
  ∃ A c, v = .slice A l.length c ∧ l.length ≤ c ∧ c ≤ maxLen ∧ (0 < l.length → ∃ b off, A = some ⟨b, off, none⟩ ∧ b < w.heap.size ∧
    ∀ (j i : Nat) (x : α) (u : Value), l[j]? = some x → (enc x)[i]? = some u → w.cell? ⟨b, off + j * k + i, none⟩ = some u)

section
variable {α : Type} {k : Nat} {enc : α → List Value}
theorem Lst.keep {w w' : World} {v : Value} {l : List α} (h : Lst k enc w v l) (hs : w.heap.size ≤ w'.heap.size) (hk : ∀ p : Addr, p.block < w.heap.size → w'.cell? p = w.cell? p) : Lst k enc w' v l := by
  obtain ⟨A, c, e, h1, h2, h3⟩ := h
  refine ⟨A, c, e, h1, h2, fun h0 => ?_⟩
  obtain ⟨b, off, e', hb, hc⟩ := h3 h0
  exact ⟨b, off, e', by omega, fun j i x u hj hi => (hk ⟨b, off + j * k + i, none⟩ hb).trans (hc j i x u hj hi)⟩
theorem Lst.below {w w' : World} {v : Value} {l : List α} (h : Lst k enc w v l) (hb : Below w.heap.size w w') : Lst k enc w' v l := h.keep hb.size fun _ hp => hb.cell hp
theorem Lst.alloc {w : World} {v : Value} {l : List α} (h : Lst k enc w v l) (o : Obj) : Lst k enc (w.alloc o) v l := h.below ((Below.refl _ _).alloc (Nat.le_refl _) _)
theorem Lst.drew {w : World} {v : Value} {l : List α} (h : Lst k enc w v l) : Lst k enc w.drew v l := h
theorem Lst.nil (w : World) : Lst k enc w (.slice none 0 0) ([] : List α) := ⟨none, 0, rfl, Nat.le_refl _, by unfold maxLen; omega, fun h => by simp at h⟩
/-- the list behind its first element -/
theorem Lst.tail {w : World} {x : α} {l : List α} {A : Option Addr} {n c : Nat} (h : Lst k enc w (.slice A n c) (x :: l)) : ∃ b off, A = some ⟨b, off, none⟩ ∧ Lst k enc w (.slice (some ⟨b, off + k, none⟩) (n - 1) (c - 1)) l := by
  obtain ⟨A', c', e, h1, h2, h3⟩ := h
  cases e
  obtain ⟨b, off, e', hb, hc⟩ := h3 (by simp)
  refine ⟨b, off, e', _, _, rfl, ?_, by omega, fun h0 => ⟨b, off + k, rfl, hb, fun j i y u hj hi => ?_⟩⟩
  · simp at h1; omega
  · have := hc (j + 1) i y u (by simpa using hj) hi
    rw [show off + k + j * k + i = off + (j + 1) * k + i by rw [Nat.add_mul]; omega]
    exact this
theorem Lst.len {w : World} {l : List α} {A : Option Addr} {n c : Nat} (h : Lst k enc w (.slice A n c) l) : n = l.length := by
  obtain ⟨A', c', e, -⟩ := h
  cases e
  rfl

/-- the cells of a list -/
def flatE (enc : α → List Value) (l : List α) : List Value := l.flatMap enc
theorem flatE_append (l m : List α) : flatE enc (l ++ m) = flatE enc l ++ flatE enc m := by simp [flatE]
theorem flatE_length (hk : ∀ x, (enc x).length = k) (l : List α) : (flatE enc l).length = l.length * k := by
  induction l with
  | nil => simp [flatE]
  | cons a l ih => simp only [flatE, List.flatMap_cons, List.length_append, List.length_cons] at ih ⊢; rw [ih, hk, Nat.add_mul]; omega
theorem flatE_get (hk : ∀ x, (enc x).length = k) (l : List α) : ∀ (j i : Nat) (x : α) (u : Value), l[j]? = some x → (enc x)[i]? = some u → (flatE enc l)[j * k + i]? = some u := by
  induction l with
  | nil => intro j i x u h; simp at h
  | cons a l ih =>
    intro j i x u h hu
    have hi : i < k := by
      have := (List.getElem?_eq_some_iff.1 hu).1
      rw [hk] at this
      exact this
    cases j with
    | zero =>
      simp at h
      subst h
      simp only [flatE, List.flatMap_cons, Nat.zero_mul, Nat.zero_add]
      rw [List.getElem?_append_left (by rw [hk]; exact hi)]
      exact hu
    | succ j =>
      have := ih j i x u (by simpa using h) hu
      simp only [flatE, List.flatMap_cons] at this ⊢
      rw [List.getElem?_append_right (by rw [hk, Nat.add_mul]; omega), hk, show (j + 1) * k + i - k = j * k + i by rw [Nat.add_mul]; omega]
      exact this
/-- a row of the call's own reads as a list -/
theorem Lst_of_own (hk : ∀ x, (enc x).length = k) {w : World} {base : Nat} {e : TypeId} {v : Value} {n : Nat} {l : List α} (h : w.ownsRow base e k v n (flatE enc l)) (hn : n = l.length) : Lst k enc w v l := by
  subst hn
  rcases Nat.eq_zero_or_pos l.length with h0 | h0
  · have hl : l = [] := List.eq_nil_of_length_eq_zero h0
    subst hl
    rcases h.2 with ⟨rfl, _⟩ | ⟨g, cap, cur, rfl, _, hh, _, hm, _⟩
    · exact ⟨none, 0, rfl, Nat.le_refl _, by unfold maxLen; omega, fun h => absurd h (by simp)⟩
    · exact ⟨_, cap, rfl, by simp, by omega, fun h => absurd h (by simp)⟩
  · obtain ⟨g, cap, rfl, hb, hlt⟩ := h.form h0
    have hc := h.cells (g := g) rfl
    rcases h.2 with ⟨_, h1⟩ | ⟨g', cap', cur, hv, _, hh, hnc, hm, _⟩
    · omega
    · cases hv
      refine ⟨_, cap, rfl, hnc, by omega, fun _ => ⟨g, 0, rfl, hlt, fun j i x u hj hi => ?_⟩⟩
      have a1 := hc _ _ (flatE_get hk l j i x u hj hi)
      have ad : ∀ j, (⟨g, 0, none⟩ : Addr).add j = ⟨g, 0 + j, none⟩ := fun j => by unfold Addr.add; split <;> simp_all
      rw [ad] at a1
      rw [Nat.add_assoc]
      exact a1
/-- a literal, in a block of its own -/
theorem Lst_lit (hk : ∀ x, (enc x).length = k) (w : World) (B n : Nat) (hB : w.heap.size = B) (cs : Array Value) (l : List α) (e : TypeId) (hc : cs.toList = flatE enc l) (hn : n = l.length) (hm : n ≤ maxLen) : Lst k enc (w.alloc (.cells cs e)) (.slice (some ⟨B, 0, none⟩) n n) l := by
  subst hB
  have hs : cs.size = n * k := by rw [← Array.length_toList, hc, flatE_length hk, hn]
  have h := World.ownsRow_lit (base := 0) (e := e) (size := k) w cs n (Nat.zero_le _) hm hs
  rw [hc] at h
  exact Lst_of_own hk h hn
end

theorem belowGrown {w w' : World} (h : Below w.heap.size w w') : w.grownBy w' none := ⟨h.os, h.tape, h.output, h.size, fun i hi _ => h.block i hi⟩
theorem ownsBelow {w w' : World} {base : Nat} {e : TypeId} {size : Nat} {v : Value} {n : Nat} {xs : List Value} (h : w.ownsRow base e size v n xs) (hb : Below w.heap.size w w') : w'.ownsRow base e size v n xs :=
  h.kept (belowGrown hb) (by cases hv : v.ownBlock <;> simp)

theorem frozenAllocLt (w : World) (o : Obj) (p : Addr) (h : p.block < w.heap.size) : (w.alloc o).frozen? p = w.frozen? p := ((Below.refl w.heap.size w).alloc (Nat.le_refl _) o).frozen h

/-- a run: its row, its first cell, the one behind its last -/
abbrev R3 := Int × Int × Int
def encR (r : R3) : List Value := [.int .i64 r.1, .int .i64 r.2.1, .int .i64 r.2.2]
theorem encR_len (r : R3) : (encR r).length = 3 := rfl
def encS (s : Int × Int) : List Value := [.int .i64 s.1, .int .i64 s.2]
theorem encS_len (s : Int × Int) : (encS s).length = 2 := rfl
abbrev Runs (w : World) (v : Value) (l : List R3) : Prop := Lst 3 encR w v l

theorem Runs.at {w : World} {l : List R3} {n c b off : Nat} (h : Runs w (.slice (some ⟨b, off, none⟩) n c) l) {j : Nat} {y f t : Int} (hj : l[j]? = some (y, f, t)) :
    b < w.heap.size ∧ w.cell? ⟨b, off + j * 3, none⟩ = some (.int .i64 y) ∧ w.cell? ⟨b, off + j * 3 + 1, none⟩ = some (.int .i64 f) ∧ w.cell? ⟨b, off + j * 3 + 2, none⟩ = some (.int .i64 t) := by
  obtain ⟨A', c', e, h1, h2, h3⟩ := h
  cases e
  obtain ⟨b', off', e', hb, hc⟩ := h3 (by have := (List.getElem?_eq_some_iff.1 hj).1; omega)
  cases e'
  exact ⟨hb, hc j 0 _ _ hj rfl, hc j 1 _ _ hj rfl, hc j 2 _ _ hj rfl⟩

/-- ContainsFunc over no element -/
theorem has_run_none (A : Option Addr) (c : Nat) (fv : Value) (w : World) : Calls Try.prog 63 #[.slice A 0 c, fv] w fun e w' => e = .returned (.bool false) ∧ w = w' := by
  have hi : ∀ w, Calls Try.prog 112 #[.slice A 0 c, fv] w fun e w' => e = .returned (.int .i64 (-1)) ∧ w = w' := by
    intro w
    go_enter Try.func112, Try.ntmps112
    go_wp2_with fail
    go_loopw [8] (fun i wr => i = .int .i64 0 ∧ w = wr) (fun _ _ => 0)
    case atStart => exact ⟨rfl, rfl⟩
    case round =>
      obtain ⟨rfl, rfl⟩ := hrel
      go_wp2_with fail
      go_ret
      exact ⟨rfl, rfl⟩
  go_enter Try.func63, Try.ntmps63
  go_wp2_with fail
  refine (hi _).mono ?_
  rintro e w1 ⟨rfl, rfl⟩
  go_wp2_with fail
  go_ret
  exact ⟨rfl, rfl⟩

/-- ContainsFunc over runs -/
theorem has_run (g : Nat) (cb : Array Value) (p : R3 → Bool) (v : Value) (l : List R3) (w : World) (h : Runs w v l) (eg : ∀ args w, (callFunc g args).run Try.prog w = .ok (.enter g args) w)
    (hp : ∀ (W : World) (y f t : Int), Below w.heap.size w W → Calls Try.prog g (#[.agg #[.int .i64 y, .int .i64 f, .int .i64 t]] ++ cb) W fun e w' => e = .returned (.bool (p (y, f, t))) ∧ Below W.heap.size W w') :
    Calls Try.prog 63 #[v, .func (.func g) #[] cb] w fun e w' => e = .returned (.bool (l.any p)) ∧ Below w.heap.size w w' := by
  obtain ⟨A, c, rfl, h1, h2, h3⟩ := h
  unfold maxLen at h2
  rcases Nat.eq_zero_or_pos l.length with h0 | h0
  · have hl : l = [] := List.eq_nil_of_length_eq_zero h0
    subst hl
    refine (has_run_none A c _ w).mono ?_
    rintro e w' ⟨rfl, rfl⟩
    exact ⟨rfl, Below.refl _ _⟩
  · obtain ⟨b, off, rfl, hb, hc⟩ := h3 h0
    have hcon := AnyQ.slices_ContainsFunc Try.hasRun 3 Try.isAgg72 Try.sizeOf72 encR encR_len p g cb eg b off l.length c l w
      (fun W x hW => (hp W x.1 x.2.1 x.2.2 hW).mono fun e w' ⟨he, hb'⟩ => ⟨he, hW.trans (hb'.mono hW.size)⟩) (Nat.le_refl _) (by omega) hb
      (fun j hj i u hu => by
        have e : l[j]! = l[j] := by simp [hj]
        rw [e] at hu
        exact hc j i _ u (List.getElem?_eq_getElem hj) hu)
    rw [List.take_length] at hcon
    exact hcon

end Go.Proofs.Ytnbdnnbeiohmgaa
