/- slices.Backward over rows of bytes: its iterator. -/
import Derived.Test.YtnbdnnbeiohmgaaGsBld
namespace Go.Proofs.Ytnbdnnbeiohmgaa
open Go.RowKit Go.Maps Go.Shelf Go.Lib
attribute [local go_sem] Oper.semAt_some

/-- what a round keeps: all that lay below, and the boxes of rows of rows -/
def KpB (n₀ : Nat) (W W' : World) : Prop := Below n₀ W W' ∧ ∀ (k : Nat) (c : Array Value) (f : Nat × Nat), W.heap[k]? = some (.cells c 146 f) → W'.heap[k]? = some (.cells c 146 f)
theorem KpB.refl {n₀ : Nat} (A : World) : KpB n₀ A A := ⟨Below.refl _ _, fun _ _ _ e => e⟩
theorem KpB.t {n₀ : Nat} {A B C : World} (h : KpB n₀ A B) (k : KpB n₀ B C) : KpB n₀ A C := ⟨h.1.trans k.1, fun j c f e => k.2 j c f (h.2 j c f e)⟩
theorem KpB.b {n₀ : Nat} {w : World} (hn : n₀ ≤ w.heap.size) (W : World) (l : Nat) (o o' : Obj) (hl : w.heap.size ≤ l) (h : W.heap[l]? = some o) (h1 : o.isCells = false) (h2 : o.isWalk = false) : KpB n₀ W (W.putObj l o') :=
  ⟨belowK_b hn W l o o' hl h h1 h2, fun k c f e => by
    by_cases hk : k = l
    · subst hk
      rw [h] at e
      cases e
      cases h1
    · exact (World.putObj_heap_other hk).trans e⟩
theorem KpB.alloc {n₀ : Nat} {W : World} (hn : n₀ ≤ W.heap.size) (o : Obj) : KpB n₀ W (W.alloc o) :=
  ⟨(Below.refl _ _).alloc hn o, fun k _c _f e => (Below.heap_alloc W o k (Array.getElem?_eq_some_iff.1 e).1).trans e⟩
end Go.Proofs.Ytnbdnnbeiohmgaa
