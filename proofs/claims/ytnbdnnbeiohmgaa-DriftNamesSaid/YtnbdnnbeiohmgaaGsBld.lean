/- strings.Builder: Write, WriteByte; strings.Repeat of one byte. -/
import Derived.Test.YtnbdnnbeiohmgaaGsShelf
import Derived.Test.YtnbdnnbeiohmgaaGsShore
namespace Go.Proofs.Ytnbdnnbeiohmgaa
open Go.RowKit Go.Maps Go.Shelf Go.Lib
attribute [local go_sem] Oper.semAt_some

/-- a builder in block b, its row at B or above -/
def Bld (B b : Nat) (bs : List Value) (w : World) : Prop := Lib.IsBuilderF 152 5 B b bs w
/-- what lies as it lay where a builder was written to -/
theorem Lib.OthersKept.others {b : Nat} {w w' : World} {x y : Value} (h : Lib.OthersKept 5 (some b) w w') (hb : w.heap[b]? = some (.cells #[x, y] 152 (0, 0))) (hs : w.heap.size ≤ w'.heap.size) : KeepsOthers w w' :=
  ⟨hs, fun k o hk ho => h k o hk (fun e => by
    cases e
    rw [hb] at hk
    cases hk
    cases ho) (fun c fz e => by subst e; cases ho)⟩
theorem Bld.block {B b : Nat} {bs : List Value} {w : World} (h : Bld B b bs w) : B ≤ b ∧ ∃ x y, w.heap[b]? = some (.cells #[x, y] 152 (0, 0)) := by
  rcases h with ⟨h1, v, h2, -⟩ | ⟨h1, v, h2, -⟩
  · exact ⟨h1, _, _, h2⟩
  · exact ⟨h1, _, _, h2⟩
end Go.Proofs.Ytnbdnnbeiohmgaa
