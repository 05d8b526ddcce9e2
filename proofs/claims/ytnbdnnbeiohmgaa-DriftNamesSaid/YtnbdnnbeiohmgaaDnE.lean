/- drift: at, with no flows. -/
import Derived.Test.YtnbdnnbeiohmgaaDnD
namespace Go.Proofs.Ytnbdnnbeiohmgaa
open Go.RowKit Go.Shelf Go.Lib
attribute [local go_sem] Oper.semAt_some

set_option maxRecDepth 100000 in
set_option maxHeartbeats 32000000 in
theorem at_nil (x y t : Int) (w : World) :
    Calls Try.prog 133 #[.slice none 0 0, .agg #[.int .i64 x, .int .i64 y], .int .i64 t] w fun e w' => e = .returned (.tuple #[.agg #[.int .i64 0, .int .i64 0], .agg #[.int .i64 0, .int .i64 0], .bool false]) ∧ Below w.heap.size w w' := by
  obtain ⟨w0, hw0⟩ : ∃ W', ((w.alloc (.cells #[.int .i64 x, .int .i64 y] 39)).alloc (.cells #[.int .i64 0, .int .i64 0] 203)).alloc (.cells #[.int .i64 0, .int .i64 0] 203) = W' := ⟨_, rfl⟩
  obtain ⟨Z, hZ⟩ : ∃ Z, w.heap.size = Z := ⟨_, rfl⟩
  have b0 : Below w.heap.size w w0 := by rw [← hw0]; exact (((Below.refl _ _).alloc (Nat.le_refl _) _).alloc (by simp) _).alloc (by simp; omega) _
  have s0 : w0.heap.size = Z + 3 := by rw [← hw0, ← hZ]; simp
  have y0 : w0.cell? ⟨Z + 1, 0, none⟩ = some (.int .i64 0) := by rw [← hw0, ← hZ]; simp [go_sem]
  have y1 : w0.cell? ⟨Z + 1, 1, none⟩ = some (.int .i64 0) := by rw [← hw0, ← hZ]; simp [go_sem]
  have z0 : w0.cell? ⟨Z + 1 + 1, 0, none⟩ = some (.int .i64 0) := by rw [← hw0, ← hZ]; simp [go_sem]
  have z1 : w0.cell? ⟨Z + 1 + 1, 1, none⟩ = some (.int .i64 0) := by rw [← hw0, ← hZ]; simp [go_sem]
  have fy0 : w0.frozen? ⟨Z + 1, 0, none⟩ = false := by rw [← hw0, ← hZ]; simp [go_sem]
  have fy1 : w0.frozen? ⟨Z + 1, 1, none⟩ = false := by rw [← hw0, ← hZ]; simp [go_sem]
  have fz0 : w0.frozen? ⟨Z + 1 + 1, 0, none⟩ = false := by rw [← hw0, ← hZ]; simp [go_sem]
  have fz1 : w0.frozen? ⟨Z + 1 + 1, 1, none⟩ = false := by rw [← hw0, ← hZ]; simp [go_sem]
  have HBR := Lib.hid b0
  have e0 : Z + 1 ≠ Z + 1 + 1 := by omega
  have H2 := Lib.hid (show Two w0 (Z + 1) (Z + 1 + 1) (.int .i64 0) (.int .i64 0) (.int .i64 0) (.int .i64 0) from ⟨y0, y1, z0, z1, fy0, fy1, fz0, fz1⟩)
  clear b0 s0 y0 y1 z0 z1 fy0 fy1 fz0 fz1
  go_enter Try.func133, Try.ntmps133
  go_upto_region 1 with fail
  (try rw [hw0]); (try rw [hZ])
  have HZ := Lib.hid hZ
  clear hw0 hZ
  go_wp2_with fail
  go_loopw [8, 13] (fun kb i wr => kb = .bool false ∧ i = .int .i64 0 ∧ wr = w0) (fun _ _ _ => 0)
  case atStart => exact ⟨rfl, rfl, rfl⟩
  case round =>
    obtain ⟨rfl, rfl, rfl⟩ := hrel
    have h2 := H2.out
    have h3 := Two.fst e0 h2 (.int .i64 0) (.int .i64 0)
    have h4 := Two.snd e0 h3 (.int .i64 0) (.int .i64 0)
    have H3 := Lib.hid h3
    have H4 := Lib.hid h4
    obtain ⟨y0, y1, z0, z1, fy0, fy1, fz0, fz1⟩ := h2
    clear h3 h4
    go_wp2_with fail
    go_region_held3 (fun W' => W'.cell? ⟨Z + 1, 0, none⟩ = some (.int .i64 0) ∧ W'.cell? ⟨Z + 1, 1, none⟩ = some (.int .i64 0) ∧ W'.cell? ⟨Z + 1 + 1, 0, none⟩ = some (.int .i64 0) ∧ W'.cell? ⟨Z + 1 + 1, 1, none⟩ = some (.int .i64 0) ∧ W'.frozen? ⟨Z + 1, 0, none⟩ = false ∧ W'.frozen? ⟨Z + 1, 1, none⟩ = false ∧ W'.frozen? ⟨Z + 1 + 1, 0, none⟩ = false ∧ W'.frozen? ⟨Z + 1 + 1, 1, none⟩ = false) (first | exact H2.out | exact H3.out | exact H4.out) (fail)
    rename_i hHeld
    clear hHeld
    obtain ⟨wz, hwz⟩ : ∃ W', ((((wr.setCell ⟨Z + 1, 0, none⟩ (.int .i64 0)).setCell ⟨Z + 1, 1, none⟩ (.int .i64 0)).setCell ⟨Z + 1 + 1, 0, none⟩ (.int .i64 0)).setCell ⟨Z + 1 + 1, 1, none⟩ (.int .i64 0)).drew = W' := ⟨_, rfl⟩
    have h5 : Two wz (Z + 1) (Z + 1 + 1) (.int .i64 0) (.int .i64 0) (.int .i64 0) (.int .i64 0) := by rw [← hwz]; exact H4.out
    have hk : Below w.heap.size w wz := by
      rw [← hwz]
      have hz := HZ.out
      exact belowDrew ((((HBR.out.setCell (p := ⟨Z + 1, 0, none⟩) (by show w.heap.size ≤ Z + 1; omega) _).setCell (p := ⟨Z + 1, 1, none⟩) (by show w.heap.size ≤ Z + 1; omega) _).setCell (p := ⟨Z + 1 + 1, 0, none⟩) (by show w.heap.size ≤ Z + 1 + 1; omega) _).setCell (p := ⟨Z + 1 + 1, 1, none⟩) (by show w.heap.size ≤ Z + 1 + 1; omega) _)
    rw [hwz]
    clear hwz H2 H3 H4 HBR y0 y1 z0 z1 fy0 fy1 fz0 fz1
    have HW := Lib.hid hk
    clear hk
    obtain ⟨q0, q1, q2, q3, q4, q5, q6, q7⟩ := h5
    go_wp2_with fail
    refine bodyPost_ret (v := .tuple #[.agg #[.int .i64 0, .int .i64 0], .agg #[.int .i64 0, .int .i64 0], .bool false]) (by simp [results, Try.results133, go_sem, q0, q1, q2, q3]) rfl ⟨rfl, HW.out⟩

end Go.Proofs.Ytnbdnnbeiohmgaa
