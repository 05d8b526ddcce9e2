/- the calls of the law GridNames that end with an error. -/
import Derived.Test.YtnbdnnbeiohmgaaGsShore
import Derived.Test.YtnbdnnbeiohmgaaGrAlive
namespace Go.Proofs.Ytnbdnnbeiohmgaa
open Go.RowKit Go.Shelf Go.Lib
attribute [local go_sem] Oper.semAt_some

set_option maxRecDepth 100000 in
set_option maxHeartbeats 4000000 in
theorem allN (w : World) : Calls Try.prog 39 #[.agg #[.int .i64 257, .int .i64 1, .int .i64 1, .slice none 0 0]] w fun e w' => e = .returned (.tuple #[.slice none 0 0, .int .i64 2]) ∧ Below w.heap.size w w' := by
  have b1 := (Below.refl w.heap.size w).alloc (Nat.le_refl _) (.cells #[.int .i64 257, .int .i64 1, .int .i64 1, .slice none 0 0] 24)
  have hG := checkGrid_gr 257 1 1 (.slice none 0 0) [] (w.alloc (.cells #[.int .i64 257, .int .i64 1, .int .i64 1, .slice none 0 0] 24)) (Lst.nil _)
  rw [show checkG 257 1 1 [] = false by decide +kernel, show argE false = 2 from rfl] at hG
  have HG := Lib.hid hG
  clear hG
  go_enter Try.func39, Try.ntmps39
  go_wp2_with fail
  refine HG.out.mono ?_
  rintro e w1 ⟨rfl, hb1⟩
  go_wp2_with fail
  refine bodyPost_ret (v := .tuple #[.slice none 0 0, .int .i64 2]) (by simp [results, Try.results39, go_sem]) rfl ⟨rfl, b1.trans (hb1.mono (by simp))⟩

set_option maxRecDepth 100000 in
set_option maxHeartbeats 4000000 in
theorem chkRegN (vL v : Value) (w : World) (hL : Runs w vL [(0, 0, 2)]) (hv : Runs w v [(0, 0, 1), (0, 1, 2)]) :
    Calls Try.prog 40 #[.agg #[.int .i64 4, .int .i64 3, .int .i64 10, vL], v] w fun e w' => e = .returned (.int .i64 2) ∧ Below w.heap.size w w' := by
  obtain ⟨A, cap, rfl, -⟩ := id hv
  obtain ⟨w0, hw0⟩ : ∃ W', w.alloc (.cells #[.int .i64 4, .int .i64 3, .int .i64 10, vL] 24) = W' := ⟨_, rfl⟩
  have b0 : Below w.heap.size w w0 := by rw [← hw0]; exact (Below.refl _ _).alloc (Nat.le_refl _) _
  have s0 : w0.heap.size = w.heap.size + 1 := by rw [← hw0]; simp
  have b1 : Below w.heap.size w (w0.alloc (.cells #[.slice A 2 cap] 22)) := b0.alloc (by omega) _
  have hchk := checked_gr 4 3 10 vL (.slice (some ⟨w0.heap.size, 0, none⟩) 1 1) [(0, 0, 2)] [.slice A 2 cap] [[(0, 0, 1), (0, 1, 2)]] (w0.alloc (.cells #[.slice A 2 cap] 22)) (hL.below b1) (Lst_lit (enc := enc1) (k := 1) (fun _ => rfl) w0 w0.heap.size 1 rfl #[.slice A 2 cap] [.slice A 2 cap] 22 rfl rfl (by unfold maxLen; omega)) rfl (fun i u x hu hx => by
    match i, hu, hx with
    | 0, hu, hx => simp at hu hx; subst hu hx; exact hv.below b1
    | i + 1, hu, hx => simp at hu)
  rw [show checkRs 4 3 10 [(0, 0, 2)] [[(0, 0, 1), (0, 1, 2)]] = false by decide +kernel, show argE false = 2 from rfl] at hchk
  rw [← hw0] at hchk s0
  have HC := Lib.hid hchk
  have hbA : Below w.heap.size w ((w.alloc (.cells #[.int .i64 4, .int .i64 3, .int .i64 10, vL] 24)).alloc (.cells #[.slice A 2 cap] 22)) := by rw [hw0]; exact b1
  have HB := Lib.hid hbA
  clear hchk hbA b1 b0 hw0 hL hv
  go_enter Try.func40, Try.ntmps40
  go_wp2_with fail
  rw [s0] at HC
  refine HC.out.mono ?_
  rintro e w1 ⟨rfl, hb1⟩
  go_wp2_with fail
  go_ret
  exact ⟨rfl, HB.out.trans (hb1.mono (by simp; omega))⟩

set_option maxRecDepth 100000 in
set_option maxHeartbeats 4000000 in
theorem hullN (vL : Value) (w : World) (hL : Runs w vL [(0, 0, 2)]) :
    Calls Try.prog 41 #[.agg #[.int .i64 4, .int .i64 3, .int .i64 10, vL], .slice none 0 0] w fun e w' => e = .returned (.tuple #[.agg #[.int .i64 0, .int .i64 0], .agg #[.int .i64 0, .int .i64 0], .int .i64 7]) ∧ Below w.heap.size w w' := by
  have HL := Lib.hid hL
  clear hL
  go_enter Try.func41, Try.ntmps41
  go_upto_region 1 with fail
  obtain ⟨Z, hZ⟩ : ∃ Z, w.heap.size = Z := ⟨_, rfl⟩
  obtain ⟨w0, hw0⟩ : ∃ W', ((w.alloc (.cells #[.int .i64 4, .int .i64 3, .int .i64 10, vL] 24)).alloc (.cells #[.int .i64 0, .int .i64 0] 26)).alloc (.cells #[.int .i64 0, .int .i64 0] 26) = W' := ⟨_, rfl⟩
  have b0 : Below w.heap.size w w0 := by rw [← hw0]; exact (((Below.refl _ _).alloc (Nat.le_refl _) _).alloc (by simp) _).alloc (by simp; omega) _
  have s0 : w0.heap.size = Z + 3 := by rw [← hw0, ← hZ]; simp
  have g0 : w0.cell? ⟨Z, 0, none⟩ = some (.int .i64 4) := by rw [← hw0, ← hZ]; simp [go_sem]
  have g1 : w0.cell? ⟨Z, 1, none⟩ = some (.int .i64 3) := by rw [← hw0, ← hZ]; simp [go_sem]
  have g2 : w0.cell? ⟨Z, 2, none⟩ = some (.int .i64 10) := by rw [← hw0, ← hZ]; simp [go_sem]
  have g3 : w0.cell? ⟨Z, 3, none⟩ = some vL := by rw [← hw0, ← hZ]; simp [go_sem]
  have l0 : w0.cell? ⟨Z + 1, 0, none⟩ = some (.int .i64 0) := by rw [← hw0, ← hZ]; simp [go_sem]
  have l1 : w0.cell? ⟨Z + 1, 1, none⟩ = some (.int .i64 0) := by rw [← hw0, ← hZ]; simp [go_sem]
  have h0 : w0.cell? ⟨Z + 1 + 1, 0, none⟩ = some (.int .i64 0) := by rw [← hw0, ← hZ]; simp [go_sem]
  have h1 : w0.cell? ⟨Z + 1 + 1, 1, none⟩ = some (.int .i64 0) := by rw [← hw0, ← hZ]; simp [go_sem]
  have fl0 : w0.frozen? ⟨Z + 1, 0, none⟩ = false := by rw [← hw0, ← hZ]; simp [go_sem]
  have fl1 : w0.frozen? ⟨Z + 1, 1, none⟩ = false := by rw [← hw0, ← hZ]; simp [go_sem]
  have fh0 : w0.frozen? ⟨Z + 1 + 1, 0, none⟩ = false := by rw [← hw0, ← hZ]; simp [go_sem]
  have fh1 : w0.frozen? ⟨Z + 1 + 1, 1, none⟩ = false := by rw [← hw0, ← hZ]; simp [go_sem]
  have b1 : Below w.heap.size w (w0.alloc (.cells #[.slice none 0 0] 22)) := b0.alloc (by omega) _
  have hchk := checked_gr 4 3 10 vL (.slice (some ⟨w0.heap.size, 0, none⟩) 1 1) [(0, 0, 2)] [.slice none 0 0] [[]] (w0.alloc (.cells #[.slice none 0 0] 22)) (HL.out.below b1) (Lst_lit (enc := enc1) (k := 1) (fun _ => rfl) w0 w0.heap.size 1 rfl #[.slice none 0 0] [.slice none 0 0] 22 rfl rfl (by unfold maxLen; omega)) rfl (fun i u x hu hx => by
    match i, hu, hx with
    | 0, hu, hx => simp at hu hx; subst hu hx; exact Lst.nil _
    | i + 1, hu, hx => simp at hu)
  rw [show checkRs 4 3 10 [(0, 0, 2)] [[]] = true by decide +kernel, argE_true] at hchk
  rw [s0] at hchk
  have HC := Lib.hid hchk
  have HB := Lib.hid b1
  rw [hw0, hZ]
  have HZ := Lib.hid hZ
  clear hchk b1 b0 hw0 hZ
  go_wp2_with fail
  refine HC.out.mono ?_
  rintro e w1 ⟨rfl, hb1⟩
  have b1 : Below w0.heap.size w0 w1 := ((Below.refl _ _).alloc (Nat.le_refl _) _).trans (hb1.mono (by simp))
  have l0 := (b1.cell (p := ⟨Z + 1, 0, none⟩) (by show Z + 1 < _; omega)).trans l0
  have l1 := (b1.cell (p := ⟨Z + 1, 1, none⟩) (by show Z + 1 < _; omega)).trans l1
  have h0 := (b1.cell (p := ⟨Z + 1 + 1, 0, none⟩) (by show Z + 1 + 1 < _; omega)).trans h0
  have h1 := (b1.cell (p := ⟨Z + 1 + 1, 1, none⟩) (by show Z + 1 + 1 < _; omega)).trans h1
  have fl0 := (b1.frozen (p := ⟨Z + 1, 0, none⟩) (by show Z + 1 < _; omega)).trans fl0
  have fl1 := (b1.frozen (p := ⟨Z + 1, 1, none⟩) (by show Z + 1 < _; omega)).trans fl1
  have fh0 := (b1.frozen (p := ⟨Z + 1 + 1, 0, none⟩) (by show Z + 1 + 1 < _; omega)).trans fh0
  have fh1 := (b1.frozen (p := ⟨Z + 1 + 1, 1, none⟩) (by show Z + 1 + 1 < _; omega)).trans fh1
  have hz := b1.size
  have BB := Lib.hid (HB.out.trans (hb1.mono (by have := HZ.out; simp; omega)))
  clear hb1 b1 g0 g1 g2 g3 s0
  go_wp2_with fail
  refine bodyPost_ret (v := .tuple #[.agg #[.int .i64 0, .int .i64 0], .agg #[.int .i64 0, .int .i64 0], .int .i64 7]) (by simp [results, Try.results41, go_sem, l0, l1, h0, h1]) rfl ⟨rfl, ?_⟩
  have hz := HZ.out
  exact (((BB.out.setCell (p := ⟨Z + 1, 0, none⟩) (by show w.heap.size ≤ Z + 1; omega) _).setCell (p := ⟨Z + 1, 1, none⟩) (by show w.heap.size ≤ Z + 1; omega) _).setCell (p := ⟨Z + 1 + 1, 0, none⟩) (by show w.heap.size ≤ Z + 1 + 1; omega) _).setCell (p := ⟨Z + 1 + 1, 1, none⟩) (by show w.heap.size ≤ Z + 1 + 1; omega) _
end Go.Proofs.Ytnbdnnbeiohmgaa
