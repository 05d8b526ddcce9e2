/- The closures of table.region. -/
import Derived.Test.YtnbdnnbeiohmgaaGrAdd
import Derived.Test.YtnbdnnbeiohmgaaGrMerge
import Derived.Deep.RegionHeld3
namespace Go.Proofs.Ytnbdnnbeiohmgaa
open Go.RowKit Go.Shelf Go.Sort

theorem cmp_gr (a b c d : Int) (W : World) : Calls Try.prog 106 #[.agg #[.int .i64 a, .int .i64 b], .agg #[.int .i64 c, .int .i64 d]] W fun e w' => e = .returned (.int .i64 (wrap64 (a - c))) ∧ ∃ q os', w' = grow (W.drewN q) os' := by
  go_enter Try.func106, Try.ntmps106
  go_wp2_with fail
  go_ret
  exact ⟨rfl, 0, _, by rw [alloc_eq_grow, alloc_eq_grow, grow_grow]; rfl⟩

set_option maxRecDepth 100000 in
set_option maxHeartbeats 4000000 in
theorem join_gr (a b c d : Int) (w : World) : Calls Try.prog 107 #[.agg #[.int .i64 a, .int .i64 b], .agg #[.int .i64 c, .int .i64 d]] w fun e w' =>
    e = .returned (.tuple #[.agg #[.int .i64 a, .int .i64 (max b d)], .bool (decide (c ≤ b))]) ∧ Below w.heap.size w w' := by
  go_enter Try.func107, Try.ntmps107
  go_wp2_with fail
  have c0 : (((w.alloc (.cells #[.int .i64 a, .int .i64 b] 176)).alloc (.cells #[.int .i64 c, .int .i64 d] 176)).alloc (.cells #[.int .i64 0, .int .i64 0] 176)).cell? ⟨w.heap.size, 0, none⟩ = some (.int .i64 a) := by simp [go_sem]
  have c1 : (((w.alloc (.cells #[.int .i64 a, .int .i64 b] 176)).alloc (.cells #[.int .i64 c, .int .i64 d] 176)).alloc (.cells #[.int .i64 0, .int .i64 0] 176)).cell? ⟨w.heap.size, 1, none⟩ = some (.int .i64 b) := by simp [go_sem]
  have c2 : (((w.alloc (.cells #[.int .i64 a, .int .i64 b] 176)).alloc (.cells #[.int .i64 c, .int .i64 d] 176)).alloc (.cells #[.int .i64 0, .int .i64 0] 176)).cell? ⟨w.heap.size + 1, 0, none⟩ = some (.int .i64 c) := by simp [go_sem]
  have c3 : (((w.alloc (.cells #[.int .i64 a, .int .i64 b] 176)).alloc (.cells #[.int .i64 c, .int .i64 d] 176)).alloc (.cells #[.int .i64 0, .int .i64 0] 176)).cell? ⟨w.heap.size + 1, 1, none⟩ = some (.int .i64 d) := by simp [go_sem]
  have r0 : (((w.alloc (.cells #[.int .i64 a, .int .i64 b] 176)).alloc (.cells #[.int .i64 c, .int .i64 d] 176)).alloc (.cells #[.int .i64 0, .int .i64 0] 176)).cell? ⟨w.heap.size + 1 + 1, 0, none⟩ = some (.int .i64 0) := by simp [go_sem]
  have r1 : (((w.alloc (.cells #[.int .i64 a, .int .i64 b] 176)).alloc (.cells #[.int .i64 c, .int .i64 d] 176)).alloc (.cells #[.int .i64 0, .int .i64 0] 176)).cell? ⟨w.heap.size + 1 + 1, 1, none⟩ = some (.int .i64 0) := by simp [go_sem]
  have f0 : (((w.alloc (.cells #[.int .i64 a, .int .i64 b] 176)).alloc (.cells #[.int .i64 c, .int .i64 d] 176)).alloc (.cells #[.int .i64 0, .int .i64 0] 176)).frozen? ⟨w.heap.size + 1 + 1, 0, none⟩ = false := by simp [go_sem]
  have f1 : (((w.alloc (.cells #[.int .i64 a, .int .i64 b] 176)).alloc (.cells #[.int .i64 c, .int .i64 d] 176)).alloc (.cells #[.int .i64 0, .int .i64 0] 176)).frozen? ⟨w.heap.size + 1 + 1, 1, none⟩ = false := by simp [go_sem]
  have b1 : Below w.heap.size w (((w.alloc (.cells #[.int .i64 a, .int .i64 b] 176)).alloc (.cells #[.int .i64 c, .int .i64 d] 176)).alloc (.cells #[.int .i64 0, .int .i64 0] 176)) := (((Below.refl w.heap.size w).alloc (Nat.le_refl _) _).alloc (by simp) _).alloc (by simp; omega) _
  have z1 : w.heap.size + 1 + 1 < (((w.alloc (.cells #[.int .i64 a, .int .i64 b] 176)).alloc (.cells #[.int .i64 c, .int .i64 d] 176)).alloc (.cells #[.int .i64 0, .int .i64 0] 176)).heap.size := by simp
  obtain ⟨w0, hw0⟩ : ∃ w0, (((w.alloc (.cells #[.int .i64 a, .int .i64 b] 176)).alloc (.cells #[.int .i64 c, .int .i64 d] 176)).alloc (.cells #[.int .i64 0, .int .i64 0] 176)) = w0 := ⟨_, rfl⟩
  rw [hw0] at b1 z1 c0 c1 c2 c3 r0 r1 f0 f1 ⊢
  clear hw0
  obtain ⟨B, hB⟩ : ∃ B, w.heap.size = B := ⟨_, rfl⟩
  rw [hB] at b1 z1 c0 c1 c2 c3 r0 r1 f0 f1 ⊢
  have e0 : ¬ (B + 1 + 1 = B) := by omega
  have e0' : ¬ (B = B + 1 + 1) := by omega
  have e1 : ¬ (B + 1 + 1 = B + 1) := by omega
  have e1' : ¬ (B + 1 = B + 1 + 1) := by omega
  go_region_held3 (fun W' => W'.cell? ⟨B, 0, none⟩ = some (.int .i64 a) ∧ W'.cell? ⟨B, 1, none⟩ = some (.int .i64 b) ∧ W'.cell? ⟨B + 1, 0, none⟩ = some (.int .i64 c) ∧ W'.cell? ⟨B + 1, 1, none⟩ = some (.int .i64 d) ∧ W'.frozen? ⟨B + 1 + 1, 0, none⟩ = false ∧ W'.frozen? ⟨B + 1 + 1, 1, none⟩ = false) (first | exact ⟨c0, c1, c2, c3, f0, f1⟩ | go_keep | (simp [go_sem, c0, c1, c2, c3, f0, f1, r0, r1, e0, e0', e1, e1']; done)) (fail)
  rename_i hHeld
  clear hHeld
  have hzb : B + 1 + 1 < w0.heap.size := z1
  go_wp2_with fail
  refine bodyPost_ret (v := .tuple #[.agg #[.int .i64 a, .int .i64 (max b d)], .bool (decide (c ≤ b))]) (by simp [results, Try.results107, go_sem, r0, r1, f0, f1]) rfl ⟨rfl, ?_⟩
  rw [hB]
  exact belowDrew ((b1.setCell (p := ⟨B + 1 + 1, 0, none⟩) (by simp; omega) _).setCell (p := ⟨B + 1 + 1, 1, none⟩) (by simp; omega) _)
end Go.Proofs.Ytnbdnnbeiohmgaa
