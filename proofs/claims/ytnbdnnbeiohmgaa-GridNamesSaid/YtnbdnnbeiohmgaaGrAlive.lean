/- cressetlaw03.alive. -/
import Derived.Test.YtnbdnnbeiohmgaaGrWithout
import Derived.Test.YtnbdnnbeiohmgaaGrGrow
import Derived.Deep.RegionHeld3
namespace Go.Proofs.Ytnbdnnbeiohmgaa
open Go.RowKit Go.Shelf Go.Lib

theorem one_32 (w : World) : Calls Try.prog 17 #[.int .i64 3, .int .i64 2] w fun e w' => (∃ v, e = .returned v ∧ Runs w' v [(2, 3, 4)]) ∧ Below w.heap.size w w' := one_gr 3 2 w (by omega)
theorem one_22 (w : World) : Calls Try.prog 17 #[.int .i64 2, .int .i64 2] w fun e w' => (∃ v, e = .returned v ∧ Runs w' v [(2, 2, 3)]) ∧ Below w.heap.size w w' := one_gr 2 2 w (by omega)
theorem grow_little (vL v : Value) (w : World) (hL : Runs w vL [(0, 0, 2)]) (hv : Runs w v [(2, 3, 4)]) :
    Calls Try.prog 11 #[.agg #[.int .i64 4, .int .i64 3, .int .i64 10, vL], v, .agg #[.int .i64 (-10), .int .i64 1, .int .i64 (-10), .int .i64 1]] w fun e w' => (∃ v', e = .returned (.tuple #[v', .bool true, .int .i64 0]) ∧ Runs w' v' [(2, 2, 3)]) ∧ Below w.heap.size w w' := by
  refine (grow_gr 4 3 10 (-10) 1 (-10) 1 vL v [(0, 0, 2)] [(2, 3, 4)] w hL hv (by decide +kernel) (by decide +kernel)).mono ?_
  rintro e w' ⟨⟨R, hR, v', rfl, hv'⟩, hb⟩
  have hRe : R = [(2, 2, 3)] := by
    refine (hR.single (fun y hy => ?_)).trans ?_
    · exact growF_len _ _ _ _ _
    · decide +kernel
  subst hRe
  have ho : offL 4 3 (leadOf 10 (-10) 1 (-10) 1) [(2, 3, 4)] = true := by decide +kernel
  rw [ho] 
  exact ⟨⟨v', rfl, hv'⟩, hb⟩

set_option maxRecDepth 100000 in
set_option maxHeartbeats 16000000 in
theorem alive_gr (w : World) : Calls Try.prog 9 #[] w fun e w' => e = .returned (.bool true) ∧ Below w.heap.size w w' := by
  go_enter Try.func9, Try.ntmps9
  go_wp2_with fail
  refine (little_gr _).mono ?_
  rintro e w1 ⟨⟨vL, rfl, hL⟩, hb1⟩
  obtain ⟨A, c, rfl, -⟩ := (show Runs w1 vL [(0, 0, 2)] from hL)
  have hL : Runs w1 (.slice A 1 c) [(0, 0, 2)] := hL
  go_wp2_with fail
  have b2 := hb1.alloc hb1.size (.cells #[.int .i64 4, .int .i64 3, .int .i64 10, (.slice A 1 c)] 24)
  have hL2 := hL.alloc (.cells #[.int .i64 4, .int .i64 3, .int .i64 10, (.slice A 1 c)] 24)
  have g0 : (w1.alloc (.cells #[.int .i64 4, .int .i64 3, .int .i64 10, (.slice A 1 c)] 24)).cell? ⟨w1.heap.size, 0, none⟩ = some (.int .i64 4) := by simp [go_sem]
  have g1 : (w1.alloc (.cells #[.int .i64 4, .int .i64 3, .int .i64 10, (.slice A 1 c)] 24)).cell? ⟨w1.heap.size, 1, none⟩ = some (.int .i64 3) := by simp [go_sem]
  have g2 : (w1.alloc (.cells #[.int .i64 4, .int .i64 3, .int .i64 10, (.slice A 1 c)] 24)).cell? ⟨w1.heap.size, 2, none⟩ = some (.int .i64 10) := by simp [go_sem]
  have g3 : (w1.alloc (.cells #[.int .i64 4, .int .i64 3, .int .i64 10, (.slice A 1 c)] 24)).cell? ⟨w1.heap.size, 3, none⟩ = some (.slice A 1 c) := by simp [go_sem]
  have hz : w1.heap.size < (w1.alloc (.cells #[.int .i64 4, .int .i64 3, .int .i64 10, (.slice A 1 c)] 24)).heap.size := by simp
  obtain ⟨X, hX⟩ : ∃ X, w1.heap.size = X := ⟨_, rfl⟩
  obtain ⟨w2, hw2⟩ : ∃ w2, w1.alloc (.cells #[.int .i64 4, .int .i64 3, .int .i64 10, (.slice A 1 c)] 24) = w2 := ⟨_, rfl⟩
  have hs1 := hb1.size
  rw [hw2] at b2 hL2 g0 g1 g2 g3 hz ⊢
  rw [hX] at g0 g1 g2 g3 hz hs1 ⊢
  clear hw2 hL hb1
  refine (cellOf_gr 4 3 10 39 29 (.slice A 1 c) [(0, 0, 2)] _ hL2).mono ?_
  rintro e w3 ⟨rfl, hb3⟩
  have hcv : cellV 4 3 10 [(0, 0, 2)] (39, 29) = ((3, 2), 0) := by decide +kernel
  rw [hcv]
  have g0 := (hb3.cell (p := ⟨X, 0, none⟩) hz).trans g0
  have g1 := (hb3.cell (p := ⟨X, 1, none⟩) hz).trans g1
  have g2 := (hb3.cell (p := ⟨X, 2, none⟩) hz).trans g2
  have g3 := (hb3.cell (p := ⟨X, 3, none⟩) hz).trans g3
  have hL3 := hL2.below hb3
  have b3 := b2.trans (hb3.mono (by omega))
  have hz3 := Nat.lt_of_lt_of_le hz hb3.size
  clear hb3 hL2 b2 hz hcv
  go_wp2_with fail
  have he : Below w3.heap.size w3 (w3.alloc (.cells #[.int .i64 3, .int .i64 2] 39)) := (Below.refl _ _).alloc (Nat.le_refl _) _
  have g0 := (he.cell (p := ⟨X, 0, none⟩) hz3).trans g0
  have g1 := (he.cell (p := ⟨X, 1, none⟩) hz3).trans g1
  have g2 := (he.cell (p := ⟨X, 2, none⟩) hz3).trans g2
  have g3 := (he.cell (p := ⟨X, 3, none⟩) hz3).trans g3
  have k0 : (w3.alloc (.cells #[.int .i64 3, .int .i64 2] 39)).cell? ⟨w3.heap.size, 0, none⟩ = some (.int .i64 3) := by simp [go_sem]
  have k1 : (w3.alloc (.cells #[.int .i64 3, .int .i64 2] 39)).cell? ⟨w3.heap.size, 1, none⟩ = some (.int .i64 2) := by simp [go_sem]
  have hL4 := hL3.below he
  have b4 := b3.trans (he.mono (by omega))
  have hz4 : w3.heap.size < (w3.alloc (.cells #[.int .i64 3, .int .i64 2] 39)).heap.size := by simp
  obtain ⟨Y, hY⟩ : ∃ Y, w3.heap.size = Y := ⟨_, rfl⟩
  obtain ⟨w4, hw4⟩ : ∃ w4, w3.alloc (.cells #[.int .i64 3, .int .i64 2] 39) = w4 := ⟨_, rfl⟩
  rw [hw4] at g0 g1 g2 g3 k0 k1 hL4 b4 hz4 ⊢
  rw [hY] at k0 k1 hz4 hz3 ⊢
  clear hw4 he hL3 b3
  refine (sea_little _ _ hL4).mono ?_
  rintro e w5 ⟨⟨vs, rfl, hvs⟩, hb5⟩
  have g0 := (hb5.cell (p := ⟨X, 0, none⟩) (by show X < w4.heap.size; omega)).trans g0
  have g1 := (hb5.cell (p := ⟨X, 1, none⟩) (by show X < w4.heap.size; omega)).trans g1
  have g2 := (hb5.cell (p := ⟨X, 2, none⟩) (by show X < w4.heap.size; omega)).trans g2
  have g3 := (hb5.cell (p := ⟨X, 3, none⟩) (by show X < w4.heap.size; omega)).trans g3
  have k0 := (hb5.cell (p := ⟨Y, 0, none⟩) hz4).trans k0
  have k1 := (hb5.cell (p := ⟨Y, 1, none⟩) hz4).trans k1
  have hL5 := hL4.below hb5
  have b5 := b4.trans (hb5.mono (by omega))
  have hz5 := hb5.size
  have hX5 : X < w5.heap.size := by omega
  have hY5 : Y < w5.heap.size := by omega
  clear hb5 hL4 b4
  go_wp2_with fail
  have HO := Lib.hid one_32
  go_region_held3 (fun W' => W'.cell? ⟨X, 0, none⟩ = some (.int .i64 4) ∧ W'.cell? ⟨X, 1, none⟩ = some (.int .i64 3) ∧ W'.cell? ⟨X, 2, none⟩ = some (.int .i64 10) ∧ W'.cell? ⟨X, 3, none⟩ = some (.slice A 1 c))
    (first | exact ⟨g0, g1, g2, g3⟩ | exact ⟨d0, d1, d2, d3⟩ | exact ⟨q0, q1, q2, q3⟩)
    (first | (go_at_call 17; (with_reducible refine (HO.out _).mono ?_); rintro e w6 ⟨⟨v1, rfl, hv1⟩, hb6⟩; have d0 := (hb6.cell (p := ⟨X, 0, none⟩) hX5).trans g0; have d1 := (hb6.cell (p := ⟨X, 1, none⟩) hX5).trans g1; have d2 := (hb6.cell (p := ⟨X, 2, none⟩) hX5).trans g2; have d3 := (hb6.cell (p := ⟨X, 3, none⟩) hX5).trans g3; have hb6' : Below w5.heap.size w5 w6 := ⟨hb6.os, hb6.tape, hb6.output, hb6.size, hb6.block⟩; have HG := Lib.hid (grow_little (.slice A 1 c) v1 w6 (hL5.below hb6') hv1); have hX6 := Nat.lt_of_lt_of_le hX5 hb6'.size; skip) | (go_at_call 11; (with_reducible refine HG.out.mono ?_); rintro e w7 ⟨⟨v2, rfl, hv2⟩, hb7⟩; have q0 := (hb7.cell (p := ⟨X, 0, none⟩) hX6).trans d0; have q1 := (hb7.cell (p := ⟨X, 1, none⟩) hX6).trans d1; have q2 := (hb7.cell (p := ⟨X, 2, none⟩) hX6).trans d2; have q3 := (hb7.cell (p := ⟨X, 3, none⟩) hX6).trans d3; skip))
  rename_i hHeld
  clear hHeld
  have hb7' : Below w6.heap.size w6 w7 := ⟨hb7.os, hb7.tape, hb7.output, hb7.size, hb7.block⟩
  have hs6 := hb6'.size
  have hs7 := hb7'.size
  have b7 := (b5.trans (hb6'.mono (by omega))).trans (hb7'.mono (by omega))
  have k0 := (hb7'.cell (p := ⟨Y, 0, none⟩) (by show Y < w6.heap.size; omega)).trans ((hb6'.cell (p := ⟨Y, 0, none⟩) hY5).trans k0)
  have k1 := (hb7'.cell (p := ⟨Y, 1, none⟩) (by show Y < w6.heap.size; omega)).trans ((hb6'.cell (p := ⟨Y, 1, none⟩) hY5).trans k1)
  have hvs7 := (hvs.below hb6').below hb7'
  have HS := Lib.hid (same_gr vs (.slice (some ⟨w7.heap.size, 0, none⟩) 3 3) [(0, 2, 4), (1, 0, 4), (2, 0, 4)] _ (hvs7.alloc _) (Lst_lit encR_len w7 w7.heap.size 3 rfl #[.int .i64 0, .int .i64 2, .int .i64 4, .int .i64 1, .int .i64 0, .int .i64 4, .int .i64 2, .int .i64 0, .int .i64 4] [(0, 2, 4), (1, 0, 4), (2, 0, 4)] 72 rfl rfl (by unfold maxLen; omega)))
  have hY7 : Y < w7.heap.size := by omega
  clear g0 g1 g2 g3 d0 d1 d2 d3 q0 q1 q2 q3 hvs hb6 hb7
  go_wp2_with fail
  refine HS.out.mono ?_
  rintro e w8 ⟨rfl, hb8⟩
  have b78 : Below w7.heap.size w7 w8 := ((Below.refl _ _).alloc (Nat.le_refl _) _).trans (hb8.mono (by simp))
  have k0 := (b78.cell (p := ⟨Y, 0, none⟩) hY7).trans k0
  have k1 := (b78.cell (p := ⟨Y, 1, none⟩) hY7).trans k1
  have hv2' := hv2.below b78
  have b8 := b7.trans (b78.mono (by omega))
  have hs8 := b78.size
  clear HS hb8 b78 b7
  go_wp2_with fail
  refine (one_22 _).mono ?_
  rintro e w9 ⟨⟨v3, rfl, hv3⟩, hb9⟩
  have hv2'' := hv2'.below hb9
  have b9 := b8.trans (hb9.mono (by omega))
  have hs9 := hb9.size
  go_wp2_with fail
  refine (same_gr v2 v3 [(2, 2, 3)] _ hv2'' hv3).mono ?_
  rintro e w10 ⟨rfl, hb10⟩
  go_wp2_with fail
  go_ret
  exact ⟨rfl, b9.trans (hb10.mono (by omega))⟩
end Go.Proofs.Ytnbdnnbeiohmgaa
