/- grid's table.both. -/
import Derived.Test.YtnbdnnbeiohmgaaDoorGrOthers
import Derived.Test.YtnbdnnbeiohmgaaDoorGrGrowF
import Derived.Deep.Cut
import Derived.Deep.Light
import Derived.Deep.CutRange
import Derived.BigGuard
import Derived.Deep.RegionHeld3
namespace Go.Proofs.YtnbdnnbeiohmgaaDoor
open Go.RowKit Go.Shelf Go.Lib

theorem Lst.keepBlock {α : Type} {k : Nat} {enc : α → List Value} {w w' : World} {v : Value} {l : List α} (h : Lst k enc w v l) (hs : w.heap.size ≤ w'.heap.size) (hb : ∀ g, v.ownBlock = some g → 0 < l.length → w'.heap[g]? = w.heap[g]?) : Lst k enc w' v l := by
  obtain ⟨A, c, rfl, h1, h2, h3⟩ := h
  refine ⟨A, c, rfl, h1, h2, fun h0 => ?_⟩
  obtain ⟨b, off, rfl, hbl, hc⟩ := h3 h0
  exact ⟨b, off, rfl, by omega, fun j i x u hj hi => (World.cell?_of_block (a := ⟨b, off + j * k + i, none⟩) (hb b rfl h0)).trans (hc j i x u hj hi)⟩

/-- a slice's block is no part of the table -/
def Far (w : World) (T : Nat) (vs : Nat → Value) (v : Value) (l : List R3) : Prop := ∀ g, v.ownBlock = some g → 0 < l.length → g ≠ T ∧ g < w.heap.size ∧ ∀ i, i < 256 → (vs i).ownBlock ≠ some g

def goA (x y : R3) : Bool := decide (x.1 < y.1) || (x.1 == y.1 && decide (x.2.2 < y.2.2))
def meet (W H : Int) (x y : R3) (f : Nat → List S2) : Nat → List S2 := if x.1 = y.1 then addF W H x.1 (max x.2.1 y.2.1) (min x.2.2 y.2.2) f else f
def bothF (W H : Int) : Nat → List R3 → List R3 → (Nat → List S2) → (Nat → List S2)
  | n + 1, x :: a, y :: b, f => if goA x y then bothF W H n a (y :: b) (meet W H x y f) else bothF W H n (x :: a) b (meet W H x y f)
  | _, _, _, f => f
theorem bothF_nilA (W H : Int) (n : Nat) (b : List R3) (f : Nat → List S2) : bothF W H n [] b f = f := by cases n <;> rfl
theorem bothF_nilB (W H : Int) (n : Nat) (a : List R3) (f : Nat → List S2) : bothF W H n a [] f = f := by cases n <;> cases a <;> rfl
theorem meet_len (W H : Int) (x y : R3) (f : Nat → List S2) (i : Nat) : (meet W H x y f i).length ≤ (f i).length + 1 := by
  unfold meet
  split
  · exact addF_len _ _ _ _ _ _ _
  · omega

theorem bothF_stepA {W H : Int} {x y : R3} {al bl : List R3} {f : Nat → List S2} (h : goA x y = true) : bothF W H ((x :: al).length + (y :: bl).length) (x :: al) (y :: bl) f = bothF W H (al.length + (y :: bl).length) al (y :: bl) (meet W H x y f) := by
  rw [show (x :: al).length + (y :: bl).length = (al.length + (y :: bl).length) + 1 by simp only [List.length_cons]; omega, bothF, if_pos h]
theorem bothF_stepB {W H : Int} {x y : R3} {al bl : List R3} {f : Nat → List S2} (h : goA x y = false) : bothF W H ((x :: al).length + (y :: bl).length) (x :: al) (y :: bl) f = bothF W H ((x :: al).length + bl.length) (x :: al) bl (meet W H x y f) := by
  rw [show (x :: al).length + (y :: bl).length = ((x :: al).length + bl.length) + 1 by simp only [List.length_cons]; omega, bothF, if_neg (by rw [h]; exact Bool.false_ne_true)]
theorem Far.rest {w : World} {T : Nat} {vs : Nat → Value} {b o n c m d : Nat} {x : R3} {l : List R3} (h : Far w T vs (.slice (some ⟨b, o, none⟩) n c) (x :: l)) : Far w T vs (.slice (if c = 1 then some ⟨b, o, none⟩ else some ⟨b, o + 3, none⟩) m d) l := by
  intro g hg h0
  refine h g ?_ (by simp)
  split at hg <;> simpa [Value.ownBlock] using hg
theorem Untouched.far {w w' : World} {T : Nat} {vs vs' : Nat → Value} {v : Value} {l : List R3} (h : Untouched w w' T vs vs') (hs : w.heap.size ≤ w'.heap.size) (hf : Far w T vs v l) : Far w' T vs' v l ∧ ∀ g, v.ownBlock = some g → 0 < l.length → w'.heap[g]? = w.heap[g]? :=
  ⟨fun g hg h0 => ⟨(hf g hg h0).1, Nat.lt_of_lt_of_le (hf g hg h0).2.1 hs, (h g (hf g hg h0).2.1 (hf g hg h0).1 (hf g hg h0).2.2).2⟩, fun g hg h0 => (h g (hf g hg h0).2.1 (hf g hg h0).1 (hf g hg h0).2.2).1⟩

end Go.Proofs.YtnbdnnbeiohmgaaDoor
