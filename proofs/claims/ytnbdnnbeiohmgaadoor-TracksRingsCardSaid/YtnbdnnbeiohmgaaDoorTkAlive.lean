/- alive: the chapter's first examples hold. -/
import Derived.Test.YtnbdnnbeiohmgaaDoorTkPar
import Derived.Test.YtnbdnnbeiohmgaaDoorTkLit
import Derived.Test.YtnbdnnbeiohmgaaDoorTkLength
import Derived.Test.YtnbdnnbeiohmgaaDoorTkEqual
import Derived.Test.YtnbdnnbeiohmgaaDoorTkNearAll
namespace Go.Proofs.YtnbdnnbeiohmgaaDoor
open Go.RowKit

def near08 : List (Int × Int) := [(0, 0), (4, 4)]
theorem near_08B : nearB near08 (4, 0) 3 = true := by decide +kernel
theorem near_08E : nearE near08 (4, 0) 3 = 0 := by decide +kernel

set_option maxRecDepth 100000 in
set_option maxHeartbeats 4000000 in
theorem alive_tk (w : World) : Calls Tryd.prog 6 #[] w fun e w' => e = .returned (.bool true) ∧ Below w.heap.size w w' := by
  go_enter Tryd.func6, Tryd.ntmps6
  go_wp2_with fail
  refine (length_08 _ _ (Spots_lit _ _ 3 (by simp) _ legs08 _ (by rfl) (by rfl) (by simp [maxLen]))).mono ?_
  rintro e w1 ⟨rfl, hb1⟩
  have B1 : Below w.heap.size w w1 := ((Below.refl w.heap.size w).alloc (Nat.le_refl _) _).trans (hb1.mono (by simp))
  clear hb1
  go_wp2_with fail
  refine (parallel_08 _).mono ?_
  rintro e w2 ⟨⟨v, rfl, hv⟩, hb2⟩
  have B2 : Below w.heap.size w w2 := B1.trans (hb2.mono B1.size)
  clear hb2
  go_wp2_with fail
  refine (near_all _ near08 4 0 3 _ (Spots_lit _ _ 2 (by simp) _ near08 _ (by rfl) (by rfl) (by simp [maxLen]))).mono ?_
  rintro e w3 ⟨rfl, hb3⟩
  rw [near_08B, near_08E]
  have hv3 : Spots w3 v par08 := (hv.alloc _).below hb3
  have B3 : Below w.heap.size w w3 := (B2.alloc B2.size _).trans (hb3.mono (by have := B2.size; simp; omega))
  clear hb3 hv
  go_wp2_with fail
  refine (equal_tk _ _ par08 _ (hv3.alloc _) (Spots_lit _ _ 6 (by simp) _ par08 _ (by rfl) (by rfl) (by simp [maxLen]))).mono ?_
  rintro e w4 ⟨rfl, hb4⟩
  have B4 : Below w.heap.size w w4 := (B3.alloc B3.size _).trans (hb4.mono (by have := B3.size; simp; omega))
  clear hb4 hv3
  go_wp2_with fail
  go_ret
  exact ⟨rfl, B4⟩
end Go.Proofs.YtnbdnnbeiohmgaaDoor
