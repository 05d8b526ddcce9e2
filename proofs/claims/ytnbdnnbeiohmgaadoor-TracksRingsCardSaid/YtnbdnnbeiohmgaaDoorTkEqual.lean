/- slices.Equal, of two slices that read as one list of spots. -/
import Derived.Test.YtnbdnnbeiohmgaaDoorTkValid
import Derived.Laws.StructEq
import Derived.BigQuiet
import Derived.Deep.QuietTactic
namespace Go.Proofs.YtnbdnnbeiohmgaaDoor
open Go.RowKit

theorem neq_same (x y : Int) (w : World) : (binOp .neq 23 (.agg #[.int .i64 x, .int .i64 y]) (.agg #[.int .i64 x, .int .i64 y])).run Tryd.prog w = .ok (.bool false)  w := by
  have hS : Tryd.prog.underlying 23 = some (.struct (Tryd.prog.fieldsOf 23)) := by kernel_rfl
  have hp : Tryd.prog.stoodInHeld 23 = false := by kernel_rfl
  have a3 := Tryd.isAgg3
  have z3 := Tryd.sizeOf3
  have u3 := Tryd.underlying3
  rw [run_neq_struct, show (10000 : Nat) = 9999 + 1 from rfl, run_equalIn_agg w 9999 23 _ _ hS hp]
  simp only [Program.fieldsOf, Tryd.underlying23]
  go_simp

set_option maxHeartbeats 1000000 in
theorem equal_tk (a b : Value) (l : List (Int × Int)) (w : World) (ha : Spots w a l) (hb : Spots w b l) :
    Calls Tryd.prog 17 #[a, b] w fun e w' => e = .returned (.bool true) ∧ Below w.heap.size w w' := by
  obtain ⟨A, c, rfl, h1, h2, h3⟩ := ha
  obtain ⟨A', c', rfl, h1', h2', h3'⟩ := hb
  unfold maxLen at h2 h2'
  have t0 : ((l.length : Int) != (l.length : Int)) = false := by simp
  go_enter Tryd.func17, Tryd.ntmps17
  go_wp2_with fail
  go_loopw [13] (fun i wr => ∃ k : Nat, k ≤ l.length ∧ i = .int .i64 k ∧ Below w.heap.size w wr) (fun i _ => l.length - (intOf i).toNat)
  case atStart => exact ⟨0, Nat.zero_le _, rfl, Below.refl _ _⟩
  case round =>
    obtain ⟨k, hk, rfl, hb⟩ := hrel
    by_cases hlt : k < l.length
    · obtain ⟨b, off, rfl, hbl, hc⟩ := h3 (by omega)
      obtain ⟨b', off', rfl, hbl', hc'⟩ := h3' (by omega)
      obtain ⟨⟨x, y⟩, hs⟩ : ∃ s, l[k]? = some s := ⟨_, List.getElem?_eq_getElem hlt⟩
      have hx := (hb.cell (p := ⟨b, off + k * 2, none⟩) hbl).trans (hc k _ hs).1
      have hy := (hb.cell (p := ⟨b, off + k * 2 + 1, none⟩) hbl).trans (hc k _ hs).2
      have hx' := (hb.cell (p := ⟨b', off' + k * 2, none⟩) hbl').trans (hc' k _ hs).1
      have hy' := (hb.cell (p := ⟨b', off' + k * 2 + 1, none⟩) hbl').trans (hc' k _ hs).2
      clear hs hc h3 hc' h3' t0
      dsimp only at hx hy hx' hy'
      have hneq := neq_same x y
      have hi : (k : Int) < (l.length : Int) := by omega
      go_wp2_with fail
      go_quiet (fail)
      go_wp2_with fail
      go_roundw
      case rel => exact ⟨k + 1, by omega, by go_num, ⟨hb.os, hb.tape, hb.output, hb.size, hb.block⟩⟩
      case measure => simp [intOf]; omega
    · have hke : k = l.length := by omega
      subst hke
      clear h3 h3' t0
      go_wp2_with fail
      go_ret
      exact ⟨rfl, hb⟩
end Go.Proofs.YtnbdnnbeiohmgaaDoor
