/- Literals of spots. -/
import Derived.Test.YtnbdnnbeiohmgaaDoorTkRow
namespace Go.Proofs.YtnbdnnbeiohmgaaDoor
open Go.RowKit

theorem flatS_length (l : List (Int × Int)) : (flatS l).length = l.length * 2 := by
  induction l with
  | nil => rfl
  | cons a l ih => simp [flatS] at ih ⊢; omega

/-- a literal of spots, in a block of its own -/
theorem Spots_lit (w : World) (B n : Nat) (hB : w.heap.size = B) (cs : Array Value) (l : List (Int × Int)) (e : TypeId) (hc : cs.toList = flatS l) (hn : n = l.length) (hm : n ≤ maxLen) : Spots (w.alloc (.cells cs e)) (.slice (some ⟨B, 0, none⟩) n n) l := by
  subst hB
  have hs : cs.size = n * 2 := by rw [← Array.length_toList, hc, flatS_length, hn]
  have h := World.ownsRow_lit (base := 0) (e := e) (size := 2) w cs n (Nat.zero_le _) hm hs
  rw [hc] at h
  exact Spots_of_own h hn

end Go.Proofs.YtnbdnnbeiohmgaaDoor
