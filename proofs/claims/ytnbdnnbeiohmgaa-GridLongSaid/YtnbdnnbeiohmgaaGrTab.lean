/- A table of spans, row by row; grid's table.add. -/
import Derived.Test.YtnbdnnbeiohmgaaGrCellOf
import Derived.Deep.AppendLies
namespace Go.Proofs.Ytnbdnnbeiohmgaa
open Go.RowKit Go.Shelf

/-- the table in block b: its rows' slices, and what they read as -/
structure Tab (w : World) (b : Nat) (vs : Nat → Value) (f : Nat → List (Int × Int)) : Prop where
  lt : b < w.heap.size
  cell : ∀ i, i < 256 → w.cell? ⟨b, i, none⟩ = some (vs i)
  fz : ∀ i, i < 256 → w.frozen? ⟨b, i, none⟩ = false
  own : ∀ i, i < 256 → w.ownsRow (b + 1) 176 2 (vs i) (f i).length (flatE encS (f i))
  apart : ∀ i j, i < 256 → j < 256 → i ≠ j → ∀ g, (vs i).ownBlock = some g → (vs j).ownBlock ≠ some g

def upd {α : Type} (f : Nat → α) (n : Nat) (x : α) : Nat → α := fun i => if i = n then x else f i
theorem upd_same {α : Type} (f : Nat → α) (n : Nat) (x : α) : upd f n x n = x := by simp [upd]
theorem upd_other {α : Type} (f : Nat → α) {n i : Nat} (x : α) (h : i ≠ n) : upd f n x i = f i := by simp [upd, h]

theorem Tab.below {w w' : World} {b : Nat} {vs : Nat → Value} {f : Nat → List (Int × Int)} (h : Tab w b vs f) (hb : Below w.heap.size w w') : Tab w' b vs f where
  lt := Nat.lt_of_lt_of_le h.lt hb.size
  cell i hi := (hb.cell (p := ⟨b, i, none⟩) h.lt).trans (h.cell i hi)
  fz i hi := (hb.frozen (p := ⟨b, i, none⟩) h.lt).trans (h.fz i hi)
  own i hi := ownsBelow (h.own i hi) hb
  apart := h.apart

theorem newsLit {W : World} {B : Nat} {cs : Array Value} {t : TypeId} (h : W.heap.size = B) : ∀ j u, cs.toList[j]? = some u → (W.alloc (.cells cs t)).cell? ((⟨B, 0, none⟩ : Addr).add j) = some u := by
  subst h
  exact World.news_of_block (fr := (0, 0)) (heap_alloc_new W _)

theorem ownBlock_lt {w : World} {base : Nat} {e : TypeId} {size n g : Nat} {v : Value} {xs : List Value} (h : w.ownsRow base e size v n xs) (hg : v.ownBlock = some g) : base ≤ g ∧ g < w.heap.size := by
  rcases h.2 with ⟨rfl, -⟩ | ⟨g', cap, cur, rfl, hb, hh, -⟩
  · simp [Value.ownBlock] at hg
  · simp [Value.ownBlock] at hg
    subst hg
    refine ⟨hb, ?_⟩
    rcases Nat.lt_or_ge g' w.heap.size with h | h
    · exact h
    · rw [Array.getElem?_eq_none h] at hh
      cases hh

theorem ownsSet {w : World} {base : Nat} {e : TypeId} {size n : Nat} {v : Value} {xs : List Value} (h : w.ownsRow base e size v n xs) {a : Addr} (ha : a.block < base) (u : Value) : (w.setCell a u).ownsRow base e size v n xs := by
  refine ⟨h.1, ?_⟩
  rcases h.2 with h1 | ⟨g, cap, cur, rfl, hb, hh, hr⟩
  · exact .inl h1
  · refine .inr ⟨g, cap, cur, rfl, hb, ?_, hr⟩
    rw [Below.heap_setCell _ _ _ _ (by omega)]
    exact hh

/-- a row grown by an element, its slice laid back into the table -/
theorem Tab.put {w w3 : World} {b : Nat} {vs : Nat → Value} {f : Nat → List (Int × Int)} (h : Tab w b vs f) {n : Nat} (hn : n < 256) {g cap : Nat} {l : List (Int × Int)} (hg : w.grownBy w3 (vs n).ownBlock) (hown : w3.ownsRow (b + 1) 176 2 (.slice (some ⟨g, 0, none⟩) l.length cap) l.length (flatE encS l))
    (hor : (vs n).ownBlock = some g ∨ w.heap.size ≤ g) : Tab (w3.setCell ⟨b, n, none⟩ (.slice (some ⟨g, 0, none⟩) l.length cap)) b (upd vs n (.slice (some ⟨g, 0, none⟩) l.length cap)) (upd f n l) := by
  have hkeep : ∀ k, k < w.heap.size → some k ≠ (vs n).ownBlock → w3.heap[k]? = w.heap[k]? := hg.block
  have hbn : some b ≠ (vs n).ownBlock := fun e => by have := (ownBlock_lt (h.own n hn) e.symm).1; omega
  have hb3 := hkeep b h.lt hbn
  have hc3 : ∀ i, i < 256 → w3.cell? ⟨b, i, none⟩ = some (vs i) := fun i hi => (World.cell?_of_block (a := ⟨b, i, none⟩) hb3).trans (h.cell i hi)
  have hf3 : ∀ i, i < 256 → w3.frozen? ⟨b, i, none⟩ = false := fun i hi => (World.frozen?_of_block (a := ⟨b, i, none⟩) hb3).trans (h.fz i hi)
  refine ⟨?_, fun i hi => ?_, fun i hi => ?_, fun i hi => ?_, fun i j hi hj hij g' hgi => ?_⟩
  · have := hg.size; have := h.lt; simp [World.setCell]; omega
  · by_cases e : i = n
    · subst e
      rw [upd_same]
      have hb3' : b < w3.heap.size := Nat.lt_of_lt_of_le h.lt hg.size
      simp [go_sem, hc3 i hi, hf3 i hi]
    · rw [upd_other _ _ e]
      have : (⟨b, n, none⟩ : Addr) ≠ ⟨b, i, none⟩ := by intro hh; cases hh; exact e rfl
      simp [go_sem, hc3 i hi, hf3 i hi, hc3 n hn, hf3 n hn, e, Ne.symm e]
  · simp [go_sem, hf3 i hi]
  · by_cases e : i = n
    · subst e
      rw [upd_same, upd_same]
      exact ownsSet hown (by simp) _
    · rw [upd_other _ _ e, upd_other _ _ e]
      refine ownsSet ((h.own i hi).kept hg ?_) (by simp) _
      cases hv : (vs i).ownBlock with
      | none => exact .inl rfl
      | some g2 => exact .inr fun hh => h.apart i n hi hn e g2 hv hh.symm
  · by_cases e : i = n
    · subst e
      rw [upd_same] at hgi
      rw [upd_other _ _ (Ne.symm hij)]
      simp [Value.ownBlock] at hgi
      subst hgi
      intro hj2
      rcases hor with h1 | h1
      · exact h.apart i j hi hj hij g h1 hj2
      · have := (ownBlock_lt (h.own j hj) hj2).2; omega
    · rw [upd_other _ _ e] at hgi
      by_cases e2 : j = n
      · subst e2
        rw [upd_same]
        simp only [Value.ownBlock, ne_eq, Option.some.injEq]
        intro hh
        subst hh
        rcases hor with h1 | h1
        · exact h.apart i j hi hj hij g hgi h1
        · have := (ownBlock_lt (h.own i hi) hgi).2; omega
      · rw [upd_other _ _ e2]
        exact h.apart i j hi hj hij g' hgi
end Go.Proofs.Ytnbdnnbeiohmgaa
