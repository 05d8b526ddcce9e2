/- The walk of the law GridReaches. -/
import Derived.Test.YtnbdnnbeiohmgaaGrReachP
import Derived.Deep.Cut
import Derived.Deep.Light
namespace Go.Proofs.Ytnbdnnbeiohmgaa
open Go.RowKit Go.Shelf Go.Lib

theorem cellV_ok {W H S : Int} {ld : List R3} {s c : Int × Int} (h : cellV W H S ld s = (c, 0)) : checkG W H S ld = true ∧ nearS s = true ∧ s.1 / S = c.1 ∧ s.2 / S = c.2 ∧ (0 ≤ c.1 ∧ c.1 < W) ∧ (0 ≤ c.2 ∧ c.2 < H) := by
  unfold cellV at h
  split at h
  · rename_i h1
    simp only [Bool.and_eq_true] at h1
    split at h
    · rename_i h2
      simp only [Bool.and_eq_true] at h2
      have i1 := inB_iff h2.1
      have i2 := inB_iff h2.2
      simp only [Prod.mk.injEq, and_true] at h
      subst h
      exact ⟨h1.1, h1.2, rfl, rfl, ⟨i1.1, by simp only; omega⟩, ⟨i2.1, by simp only; omega⟩⟩
    · simp at h
  · simp at h

set_option maxRecDepth 100000 in
set_option maxHeartbeats 32000000 in
theorem reaches_gr (W H S ax ay bx by' sx sy r : Int) (vL : Value) (ld : List R3) (w : World) (hL : Runs w vL ld) :
    Calls Try.prog 5 #[.agg #[.int .i64 W, .int .i64 H, .int .i64 S, vL], .agg #[.int .i64 ax, .int .i64 ay], .agg #[.int .i64 bx, .int .i64 by'], .agg #[.int .i64 sx, .int .i64 sy], .int .i64 r] w fun e w' => e = .returned (.bool true) ∧ Below w.heap.size w w' := by
  obtain ⟨AL, cL, rfl, -⟩ := (show Runs w vL ld from hL)
  obtain ⟨nL, hnL⟩ : ∃ nL, ld.length = nL := ⟨_, rfl⟩
  rw [hnL] at hL ⊢
  have HL := Lib.hid hL
  clear hL hnL
  have b0 : Below w.heap.size w ((((w.alloc (.cells #[.int .i64 W, .int .i64 H, .int .i64 S, .slice AL nL cL] 24)).alloc (.cells #[.int .i64 ax, .int .i64 ay] 26)).alloc (.cells #[.int .i64 bx, .int .i64 by'] 26)).alloc (.cells #[.int .i64 sx, .int .i64 sy] 26)) := ((((Below.refl w.heap.size w).alloc (Nat.le_refl _) _).alloc (by simp) _).alloc (by simp; omega) _).alloc (by simp; omega) _
  have g0 : ((((w.alloc (.cells #[.int .i64 W, .int .i64 H, .int .i64 S, .slice AL nL cL] 24)).alloc (.cells #[.int .i64 ax, .int .i64 ay] 26)).alloc (.cells #[.int .i64 bx, .int .i64 by'] 26)).alloc (.cells #[.int .i64 sx, .int .i64 sy] 26)).cell? ⟨w.heap.size, 0, none⟩ = some (.int .i64 W) := by simp [go_sem]
  have g1 : ((((w.alloc (.cells #[.int .i64 W, .int .i64 H, .int .i64 S, .slice AL nL cL] 24)).alloc (.cells #[.int .i64 ax, .int .i64 ay] 26)).alloc (.cells #[.int .i64 bx, .int .i64 by'] 26)).alloc (.cells #[.int .i64 sx, .int .i64 sy] 26)).cell? ⟨w.heap.size, 1, none⟩ = some (.int .i64 H) := by simp [go_sem]
  have g2 : ((((w.alloc (.cells #[.int .i64 W, .int .i64 H, .int .i64 S, .slice AL nL cL] 24)).alloc (.cells #[.int .i64 ax, .int .i64 ay] 26)).alloc (.cells #[.int .i64 bx, .int .i64 by'] 26)).alloc (.cells #[.int .i64 sx, .int .i64 sy] 26)).cell? ⟨w.heap.size, 2, none⟩ = some (.int .i64 S) := by simp [go_sem]
  have a0 : ((((w.alloc (.cells #[.int .i64 W, .int .i64 H, .int .i64 S, .slice AL nL cL] 24)).alloc (.cells #[.int .i64 ax, .int .i64 ay] 26)).alloc (.cells #[.int .i64 bx, .int .i64 by'] 26)).alloc (.cells #[.int .i64 sx, .int .i64 sy] 26)).cell? ⟨w.heap.size + 1, 0, none⟩ = some (.int .i64 ax) := by simp [go_sem]
  have a1 : ((((w.alloc (.cells #[.int .i64 W, .int .i64 H, .int .i64 S, .slice AL nL cL] 24)).alloc (.cells #[.int .i64 ax, .int .i64 ay] 26)).alloc (.cells #[.int .i64 bx, .int .i64 by'] 26)).alloc (.cells #[.int .i64 sx, .int .i64 sy] 26)).cell? ⟨w.heap.size + 1, 1, none⟩ = some (.int .i64 ay) := by simp [go_sem]
  have q0 : ((((w.alloc (.cells #[.int .i64 W, .int .i64 H, .int .i64 S, .slice AL nL cL] 24)).alloc (.cells #[.int .i64 ax, .int .i64 ay] 26)).alloc (.cells #[.int .i64 bx, .int .i64 by'] 26)).alloc (.cells #[.int .i64 sx, .int .i64 sy] 26)).cell? ⟨w.heap.size + 1 + 1, 0, none⟩ = some (.int .i64 bx) := by simp [go_sem]
  have q1 : ((((w.alloc (.cells #[.int .i64 W, .int .i64 H, .int .i64 S, .slice AL nL cL] 24)).alloc (.cells #[.int .i64 ax, .int .i64 ay] 26)).alloc (.cells #[.int .i64 bx, .int .i64 by'] 26)).alloc (.cells #[.int .i64 sx, .int .i64 sy] 26)).cell? ⟨w.heap.size + 1 + 1, 1, none⟩ = some (.int .i64 by') := by simp [go_sem]
  have s0 : ((((w.alloc (.cells #[.int .i64 W, .int .i64 H, .int .i64 S, .slice AL nL cL] 24)).alloc (.cells #[.int .i64 ax, .int .i64 ay] 26)).alloc (.cells #[.int .i64 bx, .int .i64 by'] 26)).alloc (.cells #[.int .i64 sx, .int .i64 sy] 26)).cell? ⟨w.heap.size + 1 + 1 + 1, 0, none⟩ = some (.int .i64 sx) := by simp [go_sem]
  have s1 : ((((w.alloc (.cells #[.int .i64 W, .int .i64 H, .int .i64 S, .slice AL nL cL] 24)).alloc (.cells #[.int .i64 ax, .int .i64 ay] 26)).alloc (.cells #[.int .i64 bx, .int .i64 by'] 26)).alloc (.cells #[.int .i64 sx, .int .i64 sy] 26)).cell? ⟨w.heap.size + 1 + 1 + 1, 1, none⟩ = some (.int .i64 sy) := by simp [go_sem]
  have g3 : ((((w.alloc (.cells #[.int .i64 W, .int .i64 H, .int .i64 S, .slice AL nL cL] 24)).alloc (.cells #[.int .i64 ax, .int .i64 ay] 26)).alloc (.cells #[.int .i64 bx, .int .i64 by'] 26)).alloc (.cells #[.int .i64 sx, .int .i64 sy] 26)).cell? ⟨w.heap.size, 3, none⟩ = some (.slice AL nL cL) := by simp [go_sem]
  have hz0 : ((((w.alloc (.cells #[.int .i64 W, .int .i64 H, .int .i64 S, .slice AL nL cL] 24)).alloc (.cells #[.int .i64 ax, .int .i64 ay] 26)).alloc (.cells #[.int .i64 bx, .int .i64 by'] 26)).alloc (.cells #[.int .i64 sx, .int .i64 sy] 26)).heap.size = w.heap.size + 1 + 1 + 1 + 1 := by simp
  go_enter Try.func5, Try.ntmps5
  go_wp2_with fail
  obtain ⟨w0, hw0⟩ : ∃ w0, ((((w.alloc (.cells #[.int .i64 W, .int .i64 H, .int .i64 S, .slice AL nL cL] 24)).alloc (.cells #[.int .i64 ax, .int .i64 ay] 26)).alloc (.cells #[.int .i64 bx, .int .i64 by'] 26)).alloc (.cells #[.int .i64 sx, .int .i64 sy] 26)) = w0 := ⟨_, rfl⟩
  rw [hw0] at b0 g0 g1 g2 a0 a1 q0 q1 s0 s1 g3 hz0 ⊢
  clear hw0
  obtain ⟨B, hB⟩ : ∃ B, w.heap.size = B := ⟨_, rfl⟩
  rw [hB] at b0 g0 g1 g2 a0 a1 q0 q1 s0 s1 g3 hz0 ⊢
  refine (alive_gr _).mono ?_
  rintro e w1 ⟨rfl, hb1⟩
  have g0 := (hb1.cell (p := ⟨B, 0, none⟩) (by show B < w0.heap.size; omega)).trans g0
  have g1 := (hb1.cell (p := ⟨B, 1, none⟩) (by show B < w0.heap.size; omega)).trans g1
  have g2 := (hb1.cell (p := ⟨B, 2, none⟩) (by show B < w0.heap.size; omega)).trans g2
  have a0 := (hb1.cell (p := ⟨B + 1, 0, none⟩) (by show B + 1 < w0.heap.size; omega)).trans a0
  have a1 := (hb1.cell (p := ⟨B + 1, 1, none⟩) (by show B + 1 < w0.heap.size; omega)).trans a1
  have q0 := (hb1.cell (p := ⟨B + 1 + 1, 0, none⟩) (by show B + 1 + 1 < w0.heap.size; omega)).trans q0
  have q1 := (hb1.cell (p := ⟨B + 1 + 1, 1, none⟩) (by show B + 1 + 1 < w0.heap.size; omega)).trans q1
  have s0 := (hb1.cell (p := ⟨B + 1 + 1 + 1, 0, none⟩) (by show B + 1 + 1 + 1 < w0.heap.size; omega)).trans s0
  have s1 := (hb1.cell (p := ⟨B + 1 + 1 + 1, 1, none⟩) (by show B + 1 + 1 + 1 < w0.heap.size; omega)).trans s1
  have g3 := (hb1.cell (p := ⟨B, 3, none⟩) (by show B < w0.heap.size; omega)).trans g3
  have b1 := b0.trans (hb1.mono (by omega))
  have hz1 := hb1.size
  clear hb1 b0
  go_wp2_with fail
  refine (great_gr W H S 4096 (.slice AL nL cL) (.slice none 0 0) ld [] _ (HL.out.below (by rw [hB]; exact b1)) (Lst.nil _) (fun u hu => by simp at hu)).mono ?_
  rintro e w2 ⟨⟨o, rfl, -⟩, hb2⟩
  have g0 := (hb2.cell (p := ⟨B, 0, none⟩) (by show B < w1.heap.size; omega)).trans g0
  have g1 := (hb2.cell (p := ⟨B, 1, none⟩) (by show B < w1.heap.size; omega)).trans g1
  have g2 := (hb2.cell (p := ⟨B, 2, none⟩) (by show B < w1.heap.size; omega)).trans g2
  have a0 := (hb2.cell (p := ⟨B + 1, 0, none⟩) (by show B + 1 < w1.heap.size; omega)).trans a0
  have a1 := (hb2.cell (p := ⟨B + 1, 1, none⟩) (by show B + 1 < w1.heap.size; omega)).trans a1
  have q0 := (hb2.cell (p := ⟨B + 1 + 1, 0, none⟩) (by show B + 1 + 1 < w1.heap.size; omega)).trans q0
  have q1 := (hb2.cell (p := ⟨B + 1 + 1, 1, none⟩) (by show B + 1 + 1 < w1.heap.size; omega)).trans q1
  have s0 := (hb2.cell (p := ⟨B + 1 + 1 + 1, 0, none⟩) (by show B + 1 + 1 + 1 < w1.heap.size; omega)).trans s0
  have s1 := (hb2.cell (p := ⟨B + 1 + 1 + 1, 1, none⟩) (by show B + 1 + 1 + 1 < w1.heap.size; omega)).trans s1
  have g3 := (hb2.cell (p := ⟨B, 3, none⟩) (by show B < w1.heap.size; omega)).trans g3
  have b2 := b1.trans (hb2.mono (by omega))
  have hz2 := hb2.size
  clear hb2 b1
  cases o with
  | true =>
    go_wp2_with fail
    go_ret
    exact ⟨rfl, by rw [hB]; exact b2⟩
  | false =>
  go_wp2_with fail
  refine (cellOf_gr W H S sx sy (.slice AL nL cL) ld _ (HL.out.below (by rw [hB]; exact b2))).mono ?_
  rintro e w3 ⟨rfl, hb3⟩
  have g0 := (hb3.cell (p := ⟨B, 0, none⟩) (by show B < w2.heap.size; omega)).trans g0
  have g1 := (hb3.cell (p := ⟨B, 1, none⟩) (by show B < w2.heap.size; omega)).trans g1
  have g2 := (hb3.cell (p := ⟨B, 2, none⟩) (by show B < w2.heap.size; omega)).trans g2
  have a0 := (hb3.cell (p := ⟨B + 1, 0, none⟩) (by show B + 1 < w2.heap.size; omega)).trans a0
  have a1 := (hb3.cell (p := ⟨B + 1, 1, none⟩) (by show B + 1 < w2.heap.size; omega)).trans a1
  have q0 := (hb3.cell (p := ⟨B + 1 + 1, 0, none⟩) (by show B + 1 + 1 < w2.heap.size; omega)).trans q0
  have q1 := (hb3.cell (p := ⟨B + 1 + 1, 1, none⟩) (by show B + 1 + 1 < w2.heap.size; omega)).trans q1
  have s0 := (hb3.cell (p := ⟨B + 1 + 1 + 1, 0, none⟩) (by show B + 1 + 1 + 1 < w2.heap.size; omega)).trans s0
  have s1 := (hb3.cell (p := ⟨B + 1 + 1 + 1, 1, none⟩) (by show B + 1 + 1 + 1 < w2.heap.size; omega)).trans s1
  have g3 := (hb3.cell (p := ⟨B, 3, none⟩) (by show B < w2.heap.size; omega)).trans g3
  have b3 := b2.trans (hb3.mono (by omega))
  have hz3 := hb3.size
  clear hb3 b2
  obtain ⟨⟨⟨cx, cy⟩, E1⟩, hcv⟩ : ∃ q, cellV W H S ld (sx, sy) = q := ⟨_, rfl⟩
  rw [hcv]
  dsimp only
  have HCV := Lib.hid hcv
  clear hcv
  have nB0 : B < w3.heap.size := by omega
  have nB1 : B + 1 < w3.heap.size := by omega
  have nB2 : B + 1 + 1 < w3.heap.size := by omega
  have nB3 : B + 1 + 1 + 1 < w3.heap.size := by omega
  go_wp2_with fail
  have he : Below w3.heap.size w3 (w3.alloc (.cells #[.int .i64 cx, .int .i64 cy] 39)) := (Below.refl _ _).alloc (Nat.le_refl _) _
  have g0 := (he.cell (p := ⟨B, 0, none⟩) (by show B < w3.heap.size; omega)).trans g0
  have g1 := (he.cell (p := ⟨B, 1, none⟩) (by show B < w3.heap.size; omega)).trans g1
  have g2 := (he.cell (p := ⟨B, 2, none⟩) (by show B < w3.heap.size; omega)).trans g2
  have a0 := (he.cell (p := ⟨B + 1, 0, none⟩) (by show B + 1 < w3.heap.size; omega)).trans a0
  have a1 := (he.cell (p := ⟨B + 1, 1, none⟩) (by show B + 1 < w3.heap.size; omega)).trans a1
  have q0 := (he.cell (p := ⟨B + 1 + 1, 0, none⟩) (by show B + 1 + 1 < w3.heap.size; omega)).trans q0
  have q1 := (he.cell (p := ⟨B + 1 + 1, 1, none⟩) (by show B + 1 + 1 < w3.heap.size; omega)).trans q1
  have s0 := (he.cell (p := ⟨B + 1 + 1 + 1, 0, none⟩) (by show B + 1 + 1 + 1 < w3.heap.size; omega)).trans s0
  have s1 := (he.cell (p := ⟨B + 1 + 1 + 1, 1, none⟩) (by show B + 1 + 1 + 1 < w3.heap.size; omega)).trans s1
  have g3 := (he.cell (p := ⟨B, 3, none⟩) (by show B < w3.heap.size; omega)).trans g3
  have k0 : (w3.alloc (.cells #[.int .i64 cx, .int .i64 cy] 39)).cell? ⟨w3.heap.size, 0, none⟩ = some (.int .i64 cx) := by simp [go_sem]
  have k1 : (w3.alloc (.cells #[.int .i64 cx, .int .i64 cy] 39)).cell? ⟨w3.heap.size, 1, none⟩ = some (.int .i64 cy) := by simp [go_sem]
  have b4 := b3.trans (he.mono (by omega))
  have hz4 : (w3.alloc (.cells #[.int .i64 cx, .int .i64 cy] 39)).heap.size = w3.heap.size + 1 := by simp
  obtain ⟨Y, hY⟩ : ∃ Y, w3.heap.size = Y := ⟨_, rfl⟩
  obtain ⟨w4, hw4⟩ : ∃ w4, w3.alloc (.cells #[.int .i64 cx, .int .i64 cy] 39) = w4 := ⟨_, rfl⟩
  rw [hw4] at g0 g1 g2 a0 a1 q0 q1 s0 s1 g3 k0 k1 b4 hz4 ⊢
  rw [hY] at k0 k1 hz4 hz3 ⊢
  clear hw4 he b3
  refine (disc_gr W H S ax ay r (.slice AL nL cL) ld _ (HL.out.below (by rw [hB]; exact b4))).mono ?_
  rintro e w5 ⟨⟨R1, v1, rfl, hv1, hR1⟩, hb5⟩
  have g0 := (hb5.cell (p := ⟨B, 0, none⟩) (by show B < w4.heap.size; omega)).trans g0
  have g1 := (hb5.cell (p := ⟨B, 1, none⟩) (by show B < w4.heap.size; omega)).trans g1
  have g2 := (hb5.cell (p := ⟨B, 2, none⟩) (by show B < w4.heap.size; omega)).trans g2
  have a0 := (hb5.cell (p := ⟨B + 1, 0, none⟩) (by show B + 1 < w4.heap.size; omega)).trans a0
  have a1 := (hb5.cell (p := ⟨B + 1, 1, none⟩) (by show B + 1 < w4.heap.size; omega)).trans a1
  have q0 := (hb5.cell (p := ⟨B + 1 + 1, 0, none⟩) (by show B + 1 + 1 < w4.heap.size; omega)).trans q0
  have q1 := (hb5.cell (p := ⟨B + 1 + 1, 1, none⟩) (by show B + 1 + 1 < w4.heap.size; omega)).trans q1
  have s0 := (hb5.cell (p := ⟨B + 1 + 1 + 1, 0, none⟩) (by show B + 1 + 1 + 1 < w4.heap.size; omega)).trans s0
  have s1 := (hb5.cell (p := ⟨B + 1 + 1 + 1, 1, none⟩) (by show B + 1 + 1 + 1 < w4.heap.size; omega)).trans s1
  have g3 := (hb5.cell (p := ⟨B, 3, none⟩) (by show B < w4.heap.size; omega)).trans g3
  have k0 := (hb5.cell (p := ⟨Y, 0, none⟩) (by show Y < w4.heap.size; omega)).trans k0
  have k1 := (hb5.cell (p := ⟨Y, 1, none⟩) (by show Y < w4.heap.size; omega)).trans k1
  have b5 := b4.trans (hb5.mono (by omega))
  have hz5 := hb5.size
  clear hb5 b4
  obtain ⟨ok1, hok1⟩ : ∃ q, (checkG W H S ld && nearS (ax, ay) && inB r 0 16777216) = q := ⟨_, rfl⟩
  rw [hok1] at hR1 ⊢
  obtain ⟨F1, hF1⟩ : ∃ q, argE ok1 = q := ⟨_, rfl⟩
  rw [hF1]
  have HF1 := Lib.hid hF1
  have HK1 := Lib.hid hok1
  have HR1 := Lib.hid hR1
  have HV1 := Lib.hid hv1
  clear hF1 hok1 hR1 hv1
  go_wp2_with fail
  refine (half_gr W H S ax ay bx by' (.slice AL nL cL) ld _ (HL.out.below (by rw [hB]; exact b5))).mono ?_
  rintro e w6 ⟨⟨R2, v2, rfl, hv2, hR2⟩, hb6⟩
  have g0 := (hb6.cell (p := ⟨B, 0, none⟩) (by show B < w5.heap.size; omega)).trans g0
  have g1 := (hb6.cell (p := ⟨B, 1, none⟩) (by show B < w5.heap.size; omega)).trans g1
  have g2 := (hb6.cell (p := ⟨B, 2, none⟩) (by show B < w5.heap.size; omega)).trans g2
  have a0 := (hb6.cell (p := ⟨B + 1, 0, none⟩) (by show B + 1 < w5.heap.size; omega)).trans a0
  have a1 := (hb6.cell (p := ⟨B + 1, 1, none⟩) (by show B + 1 < w5.heap.size; omega)).trans a1
  have q0 := (hb6.cell (p := ⟨B + 1 + 1, 0, none⟩) (by show B + 1 + 1 < w5.heap.size; omega)).trans q0
  have q1 := (hb6.cell (p := ⟨B + 1 + 1, 1, none⟩) (by show B + 1 + 1 < w5.heap.size; omega)).trans q1
  have s0 := (hb6.cell (p := ⟨B + 1 + 1 + 1, 0, none⟩) (by show B + 1 + 1 + 1 < w5.heap.size; omega)).trans s0
  have s1 := (hb6.cell (p := ⟨B + 1 + 1 + 1, 1, none⟩) (by show B + 1 + 1 + 1 < w5.heap.size; omega)).trans s1
  have g3 := (hb6.cell (p := ⟨B, 3, none⟩) (by show B < w5.heap.size; omega)).trans g3
  have k0 := (hb6.cell (p := ⟨Y, 0, none⟩) (by show Y < w5.heap.size; omega)).trans k0
  have k1 := (hb6.cell (p := ⟨Y, 1, none⟩) (by show Y < w5.heap.size; omega)).trans k1
  have b6 := b5.trans (hb6.mono (by omega))
  have hz6 := hb6.size
  have HV1 := Lib.hid (HV1.out.below hb6)
  clear hb6 b5
  obtain ⟨ok2, hok2⟩ : ∃ q, halfOK W H S ld (ax, ay) (bx, by') = q := ⟨_, rfl⟩
  rw [hok2] at hR2 ⊢
  obtain ⟨F2, hF2⟩ : ∃ q, argE ok2 = q := ⟨_, rfl⟩
  rw [hF2]
  have HF2 := Lib.hid hF2
  have HK2 := Lib.hid hok2
  have HR2 := Lib.hid hR2
  have HV2 := Lib.hid hv2
  clear hF2 hok2 hR2 hv2
  by_cases hE1 : E1 = 0
  · subst hE1
    obtain ⟨kG, kN, kx0, ky0, kxb, kyb⟩ := cellV_ok HCV.out
    dsimp only at kx0 ky0 kxb kyb
    obtain ⟨hW, hH, hS, -⟩ := checkG_iff kG
    have kN' := kN
    simp only [nearS, Bool.and_eq_true] at kN'
    have hsx := nearC_iff kN'.1
    have hsy := nearC_iff kN'.2
    clear kN'
    obtain ⟨dx, hdx⟩ : ∃ q, wrap64 (sx - ax) = q := ⟨_, rfl⟩
    obtain ⟨dy, hdy⟩ : ∃ q, wrap64 (sy - ay) = q := ⟨_, rfl⟩
    have idx : IntKind.i64.wrap (sx - ax) = dx := by rw [IntWalk.i64_left]; exact hdx
    have idy : IntKind.i64.wrap (sy - ay) = dy := by rw [IntWalk.i64_left]; exact hdy
    go_wp2_with fail
    go_quiet (fail)
    obtain ⟨w7, hw7⟩ : ∃ w7, w6.drewN nq = w7 := ⟨_, rfl⟩
    have hb7 : Below w6.heap.size w6 w7 := by rw [← hw7]; exact belowDrewN (Below.refl _ _) _
    rw [hw7]
    clear hw7
    have g0 := (hb7.cell (p := ⟨B, 0, none⟩) (by show B < w6.heap.size; omega)).trans g0
    have g1 := (hb7.cell (p := ⟨B, 1, none⟩) (by show B < w6.heap.size; omega)).trans g1
    have g2 := (hb7.cell (p := ⟨B, 2, none⟩) (by show B < w6.heap.size; omega)).trans g2
    have a0 := (hb7.cell (p := ⟨B + 1, 0, none⟩) (by show B + 1 < w6.heap.size; omega)).trans a0
    have a1 := (hb7.cell (p := ⟨B + 1, 1, none⟩) (by show B + 1 < w6.heap.size; omega)).trans a1
    have q0 := (hb7.cell (p := ⟨B + 1 + 1, 0, none⟩) (by show B + 1 + 1 < w6.heap.size; omega)).trans q0
    have q1 := (hb7.cell (p := ⟨B + 1 + 1, 1, none⟩) (by show B + 1 + 1 < w6.heap.size; omega)).trans q1
    have s0 := (hb7.cell (p := ⟨B + 1 + 1 + 1, 0, none⟩) (by show B + 1 + 1 + 1 < w6.heap.size; omega)).trans s0
    have s1 := (hb7.cell (p := ⟨B + 1 + 1 + 1, 1, none⟩) (by show B + 1 + 1 + 1 < w6.heap.size; omega)).trans s1
    have g3 := (hb7.cell (p := ⟨B, 3, none⟩) (by show B < w6.heap.size; omega)).trans g3
    have k0 := (hb7.cell (p := ⟨Y, 0, none⟩) (by show Y < w6.heap.size; omega)).trans k0
    have k1 := (hb7.cell (p := ⟨Y, 1, none⟩) (by show Y < w6.heap.size; omega)).trans k1
    have b7 := b6.trans (hb7.mono (by omega))
    have hz7 := hb7.size
    have HV1 := Lib.hid (HV1.out.below hb7)
    have HV2 := Lib.hid (HV2.out.below hb7)
    clear hb7 b6
    obtain ⟨kx, hkx⟩ : ∃ q, cx * S = q := ⟨_, rfl⟩
    have hkxb : 0 ≤ kx ∧ kx ≤ 12800000 := by
      rw [← hkx]
      exact ⟨Int.mul_nonneg (by omega) (by omega), by have := Int.mul_le_mul (a := cx) (b := S) (c := 256) (d := 50000) (by omega) (by omega) (by omega) (by omega); omega⟩
    obtain ⟨px, hpx⟩ : ∃ q, wrap64 (kx - ax) = q := ⟨_, rfl⟩
    obtain ⟨rx, hrx⟩ : ∃ q, wrap64 (ax - kx) = q := ⟨_, rfl⟩
    obtain ⟨tx, htx⟩ : ∃ q, wrap64 (rx - S) = q := ⟨_, rfl⟩
    obtain ⟨ux, hux⟩ : ∃ q, wrap64 (tx + 1) = q := ⟨_, rfl⟩
    have hkwx : wrap64 kx = kx := wrapId _ (by omega) (by omega)
    have ikwx : IntKind.i64.wrap kx = kx := wrapK _ (by omega) (by omega)
    have ipx : IntKind.i64.wrap (kx - ax) = px := by rw [IntWalk.i64_left]; exact hpx
    have irx : IntKind.i64.wrap (ax - kx) = rx := by rw [IntWalk.i64_left]; exact hrx
    have itx : IntKind.i64.wrap (rx - S) = tx := by rw [IntWalk.i64_left]; exact htx
    have iux : IntKind.i64.wrap (tx + 1) = ux := by rw [IntWalk.i64_left]; exact hux
    have avx : (-16777216 ≤ ax ∧ ax ≤ 16777216) → px = kx - ax ∧ ux = ax - kx - S + 1 := fun h => by
      have e1 : px = kx - ax := by rw [← hpx]; exact wrapId _ (by omega) (by omega)
      have e2 : rx = ax - kx := by rw [← hrx]; exact wrapId _ (by omega) (by omega)
      have e3 : tx = ax - kx - S := by rw [← htx, e2]; exact wrapId _ (by omega) (by omega)
      have e4 : ux = ax - kx - S + 1 := by rw [← hux, e3]; exact wrapId _ (by omega) (by omega)
      exact ⟨e1, e4⟩
    have AVx := Lib.hid avx
    clear avx
    obtain ⟨ky, hky⟩ : ∃ q, cy * S = q := ⟨_, rfl⟩
    have hkyb : 0 ≤ ky ∧ ky ≤ 12800000 := by
      rw [← hky]
      exact ⟨Int.mul_nonneg (by omega) (by omega), by have := Int.mul_le_mul (a := cy) (b := S) (c := 256) (d := 50000) (by omega) (by omega) (by omega) (by omega); omega⟩
    obtain ⟨py, hpy⟩ : ∃ q, wrap64 (ky - ay) = q := ⟨_, rfl⟩
    obtain ⟨ry, hry⟩ : ∃ q, wrap64 (ay - ky) = q := ⟨_, rfl⟩
    obtain ⟨ty, hty⟩ : ∃ q, wrap64 (ry - S) = q := ⟨_, rfl⟩
    obtain ⟨uy, huy⟩ : ∃ q, wrap64 (ty + 1) = q := ⟨_, rfl⟩
    have hkwy : wrap64 ky = ky := wrapId _ (by omega) (by omega)
    have ikwy : IntKind.i64.wrap ky = ky := wrapK _ (by omega) (by omega)
    have ipy : IntKind.i64.wrap (ky - ay) = py := by rw [IntWalk.i64_left]; exact hpy
    have iry : IntKind.i64.wrap (ay - ky) = ry := by rw [IntWalk.i64_left]; exact hry
    have ity : IntKind.i64.wrap (ry - S) = ty := by rw [IntWalk.i64_left]; exact hty
    have iuy : IntKind.i64.wrap (ty + 1) = uy := by rw [IntWalk.i64_left]; exact huy
    have avy : (-16777216 ≤ ay ∧ ay ≤ 16777216) → py = ky - ay ∧ uy = ay - ky - S + 1 := fun h => by
      have e1 : py = ky - ay := by rw [← hpy]; exact wrapId _ (by omega) (by omega)
      have e2 : ry = ay - ky := by rw [← hry]; exact wrapId _ (by omega) (by omega)
      have e3 : ty = ay - ky - S := by rw [← hty, e2]; exact wrapId _ (by omega) (by omega)
      have e4 : uy = ay - ky - S + 1 := by rw [← huy, e3]; exact wrapId _ (by omega) (by omega)
      exact ⟨e1, e4⟩
    have AVy := Lib.hid avy
    clear avy
    go_upto_region 10 with fail
    go_cut [20, 21] from 64 to 105 (fun p q wx => ∃ ux uy, p = .int .i64 ux ∧ q = .int .i64 uy ∧ (nearS (ax, ay) = true → ux = awayZ S ax cx ∧ uy = awayZ S ay cy) ∧ Below w7.heap.size w7 wx)
    case first =>
      have hcase : ∀ p u : Int, (0 < p ∧ u ≤ p) ∨ (0 < p ∧ p < u) ∨ (p ≤ 0 ∧ u ≤ 0) ∨ (p ≤ 0 ∧ 0 < u) := fun p u => by omega
      rcases hcase px ux with ⟨m1, m2⟩ | ⟨m1, m2⟩ | ⟨m1, m2⟩ | ⟨m1, m2⟩ <;> rcases hcase py uy with ⟨m3, m4⟩ | ⟨m3, m4⟩ | ⟨m3, m4⟩ | ⟨m3, m4⟩
      all_goals
        go_quiet (fail)
        go_wp2_with fail
        go_meet
        go_light
        refine ⟨_, _, rfl, rfl, fun hn => ?_, belowDrewN (Below.refl _ _) _⟩
        simp only [nearS, Bool.and_eq_true] at hn
        have n1 := AVx.out (nearC_iff hn.1)
        have n2 := AVy.out (nearC_iff hn.2)
        unfold awayZ
        rw [hkx, hky]
        constructor <;> omega
    case rest =>
      obtain ⟨vx, vy, rfl, rfl, hxy, hbc⟩ := hcut
      have g0 := (hbc.cell (p := ⟨B, 0, none⟩) (by show B < w7.heap.size; omega)).trans g0
      have g1 := (hbc.cell (p := ⟨B, 1, none⟩) (by show B < w7.heap.size; omega)).trans g1
      have g2 := (hbc.cell (p := ⟨B, 2, none⟩) (by show B < w7.heap.size; omega)).trans g2
      have a0 := (hbc.cell (p := ⟨B + 1, 0, none⟩) (by show B + 1 < w7.heap.size; omega)).trans a0
      have a1 := (hbc.cell (p := ⟨B + 1, 1, none⟩) (by show B + 1 < w7.heap.size; omega)).trans a1
      have q0 := (hbc.cell (p := ⟨B + 1 + 1, 0, none⟩) (by show B + 1 + 1 < w7.heap.size; omega)).trans q0
      have q1 := (hbc.cell (p := ⟨B + 1 + 1, 1, none⟩) (by show B + 1 + 1 < w7.heap.size; omega)).trans q1
      have s0 := (hbc.cell (p := ⟨B + 1 + 1 + 1, 0, none⟩) (by show B + 1 + 1 + 1 < w7.heap.size; omega)).trans s0
      have s1 := (hbc.cell (p := ⟨B + 1 + 1 + 1, 1, none⟩) (by show B + 1 + 1 + 1 < w7.heap.size; omega)).trans s1
      have g3 := (hbc.cell (p := ⟨B, 3, none⟩) (by show B < w7.heap.size; omega)).trans g3
      have k0 := (hbc.cell (p := ⟨Y, 0, none⟩) (by show Y < w7.heap.size; omega)).trans k0
      have k1 := (hbc.cell (p := ⟨Y, 1, none⟩) (by show Y < w7.heap.size; omega)).trans k1
      have b8 := b7.trans (hbc.mono (by omega))
      have hz8 := hbc.size
      have HV1 := Lib.hid (HV1.out.below hbc)
      have HV2 := Lib.hid (HV2.out.below hbc)
      have HXY := Lib.hid hxy
      clear hbc b7 hxy ikwx ikwy ipx ipy irx iry itx ity iux iuy hkwx hkwy hux huy htx hty hrx hry hpx hpy hkxb hkyb
      go_upto_region 11 with fail
      go_cut [143] from 106 to 143 (fun o wx => o = .bool false ∧ Below wc.heap.size wc wx)
      case first =>
        cases ok1 with
        | false =>
          have hF : F1 = 2 := by rw [← HF1.out]; rfl
          subst hF
          go_wp2_with fail
          go_meet
          exact ⟨rfl, Below.refl _ _⟩
        | true =>
          have hF : F1 = 0 := by rw [← HF1.out]; rfl
          subst hF
          have hK := HK1.out
          simp only [Bool.and_eq_true] at hK
          have hr := inB_iff hK.2
          have hna := hK.1.2
          obtain ⟨evx, evy⟩ := HXY.out hna
          simp only [nearS, Bool.and_eq_true] at hna
          have hax := nearC_iff hna.1
          have hay := nearC_iff hna.2
          have hdx2 : dx = sx - ax := by rw [← hdx]; exact wrapId _ (by omega) (by omega)
          have hdy2 : dy = sy - ay := by rw [← hdy]; exact wrapId _ (by omega) (by omega)
          have hhas := disc_has kG hr (HR1.out rfl) kxb kyb
          have ha1 := away_le (a := ax) hS.1 kx0
          have ha2 := away_le (a := ay) hS.1 ky0
          rw [← hdx2] at ha1
          rw [← hdy2] at ha2
          have x0 : 0 ≤ awayZ S ax cx := by unfold awayZ; omega
          have y0 : 0 ≤ awayZ S ay cy := by unfold awayZ; omega
          rw [← evx] at hhas ha1 x0
          rw [← evy] at hhas ha2 y0
          clear evx evy
          have x1 := Int.mul_nonneg x0 x0
          have y1 := Int.mul_nonneg y0 y0
          have m1 := mulIn (a := dx) (b := dx) (A := 33554432) (B := 33554432) (by omega) (by omega)
          have m2 := mulIn (a := dy) (b := dy) (A := 33554432) (B := 33554432) (by omega) (by omega)
          have m3 := mulIn (a := r) (b := r) (A := 16777216) (B := 16777216) (by omega) (by omega)
          obtain ⟨xx, hxx⟩ : ∃ q, vx * vx = q := ⟨_, rfl⟩
          obtain ⟨yy, hyy⟩ : ∃ q, vy * vy = q := ⟨_, rfl⟩
          obtain ⟨d1, hd1⟩ : ∃ q, dx * dx = q := ⟨_, rfl⟩
          obtain ⟨d2, hd2⟩ : ∃ q, dy * dy = q := ⟨_, rfl⟩
          obtain ⟨rr, hrr⟩ : ∃ q, r * r = q := ⟨_, rfl⟩
          rw [hxx, hyy, hrr] at hhas
          rw [hxx] at ha1 x1
          rw [hyy] at ha2 y1
          rw [hd1] at ha1 m1
          rw [hd2] at ha2 m2
          rw [hrr] at m3
          have f1 : wrap64 d1 = d1 := wrapId _ (by omega) (by omega)
          have f2 : wrap64 d2 = d2 := wrapId _ (by omega) (by omega)
          have f3 : wrap64 rr = rr := wrapId _ (by omega) (by omega)
          have f4 : wrap64 xx = xx := wrapId _ (by omega) (by omega)
          have f5 : wrap64 yy = yy := wrapId _ (by omega) (by omega)
          have f6 : wrap64 (d1 + d2) = d1 + d2 := wrapId _ (by omega) (by omega)
          have f7 : wrap64 (xx + yy) = xx + yy := wrapId _ (by omega) (by omega)
          have HHas := Lib.hid hhas
          clear hhas x0 y0 hdx2 hdy2
          obtain ⟨A1, c1, hv1e, -⟩ := HV1.out
          have HH := Lib.hid (fun w' (hb : Below wc.heap.size wc w') => has_gr v1 R1 cx cy w' (HV1.out.below hb))
          clear hv1e
          have hYc : Y < wc.heap.size := by omega
          by_cases hD : d1 + d2 ≤ rr
          · have hV : xx + yy ≤ rr := by omega
            have hh : hasL R1 cx cy = true := by rw [HHas.out]; simpa using hV
            rw [hh] at HH
            have hnD : ¬ rr < d1 + d2 := by omega
            go_wp2_with fail
            refine (HH.out _ (Below.refl _ _)).mono ?_
            rintro e w8 ⟨rfl, hb8⟩
            have k0 := (hb8.cell (p := ⟨Y, 0, none⟩) hYc).trans k0
            have k1 := (hb8.cell (p := ⟨Y, 1, none⟩) hYc).trans k1
            go_wp2_with fail
            refine (HH.out _ hb8).mono ?_
            rintro e w9 ⟨rfl, hb9⟩
            go_wp2_with fail
            go_meet
            exact ⟨rfl, hb8.trans (hb9.mono hb8.size)⟩
          · have hD' : rr < d1 + d2 := by omega
            by_cases hV : xx + yy ≤ rr
            · have hh : hasL R1 cx cy = true := by rw [HHas.out]; simpa using hV
              rw [hh] at HH
              go_wp2_with fail
              refine (HH.out _ (Below.refl _ _)).mono ?_
              rintro e w9 ⟨rfl, hb9⟩
              go_wp2_with fail
              go_meet
              exact ⟨rfl, hb9⟩
            · have hh : hasL R1 cx cy = false := by rw [HHas.out]; simpa using hV
              rw [hh] at HH
              have hV' : rr < xx + yy := by omega
              go_wp2_with fail
              refine (HH.out _ (Below.refl _ _)).mono ?_
              rintro e w9 ⟨rfl, hb9⟩
              go_wp2_with fail
              go_meet
              exact ⟨congrArg Value.bool (by simpa using hV), hb9⟩
      case rest =>
        obtain ⟨rfl, hbd⟩ := hcut
        have g0 := (hbd.cell (p := ⟨B, 0, none⟩) (by show B < _; omega)).trans g0
        have a0 := (hbd.cell (p := ⟨B + 1, 0, none⟩) (by show B + 1 < _; omega)).trans a0
        have a1 := (hbd.cell (p := ⟨B + 1, 1, none⟩) (by show B + 1 < _; omega)).trans a1
        have q0 := (hbd.cell (p := ⟨B + 1 + 1, 0, none⟩) (by show B + 1 + 1 < _; omega)).trans q0
        have q1 := (hbd.cell (p := ⟨B + 1 + 1, 1, none⟩) (by show B + 1 + 1 < _; omega)).trans q1
        have k0 := (hbd.cell (p := ⟨Y, 0, none⟩) (by show Y < _; omega)).trans k0
        have k1 := (hbd.cell (p := ⟨Y, 1, none⟩) (by show Y < _; omega)).trans k1
        have b9 := b8.trans (hbd.mono (by omega))
        have HV2 := Lib.hid (HV2.out.below hbd)
        have hYd : Y < wc.heap.size := by have := hbd.size; omega
        clear hbd b8 HV1 HXY HR1 HF1 HK1 AVx AVy hky hkx
        obtain ⟨ex, hex⟩ : ∃ q, wrap64 (bx - ax) = q := ⟨_, rfl⟩
        obtain ⟨ey, hey⟩ : ∃ q, wrap64 (by' - ay) = q := ⟨_, rfl⟩
        obtain ⟨p1, hp1⟩ : ∃ q, wrap64 (ex * dy) = q := ⟨_, rfl⟩
        obtain ⟨p2, hp2⟩ : ∃ q, wrap64 (ey * dx) = q := ⟨_, rfl⟩
        obtain ⟨df, hdf⟩ : ∃ q, wrap64 (p1 - p2) = q := ⟨_, rfl⟩
        cases ok2 with
        | false =>
          have hF : F2 = 2 := by rw [← HF2.out]; rfl
          subst hF
          go_wp2_with fail
          all_goals
            go_ret
            exact ⟨rfl, by rw [hB]; exact b9⟩
        | true =>
          have hF : F2 = 0 := by rw [← HF2.out]; rfl
          subst hF
          by_cases hl : 0 ≤ df
          · have hh : hasL R2 cx cy = true := by
              have hK := HK2.out
              simp only [halfOK, Bool.and_eq_true] at hK
              have hna := hK.1.2.1
              have hnb := hK.1.2.2
              simp only [nearS, Bool.and_eq_true] at hna hnb
              have hax := nearC_iff hna.1
              have hay := nearC_iff hna.2
              have hbx := nearC_iff hnb.1
              have hby := nearC_iff hnb.2
              have e1 : dx = sx - ax := by rw [← hdx]; exact wrapId _ (by omega) (by omega)
              have e2 : dy = sy - ay := by rw [← hdy]; exact wrapId _ (by omega) (by omega)
              have e3 : ex = bx - ax := by rw [← hex]; exact wrapId _ (by omega) (by omega)
              have e4 : ey = by' - ay := by rw [← hey]; exact wrapId _ (by omega) (by omega)
              have m1 := mulIn (a := ex) (b := dy) (A := 33554432) (B := 33554432) (by omega) (by omega)
              have m2 := mulIn (a := ey) (b := dx) (A := 33554432) (B := 33554432) (by omega) (by omega)
              have e5 : p1 = ex * dy := by rw [← hp1]; exact wrapId _ (by omega) (by omega)
              have e6 : p2 = ey * dx := by rw [← hp2]; exact wrapId _ (by omega) (by omega)
              have e7 : df = p1 - p2 := by rw [← hdf]; exact wrapId _ (by omega) (by omega)
              have hlf : 0 ≤ (bx - ax) * (sy - ay) - (by' - ay) * (sx - ax) := by rw [← e1, ← e2, ← e3, ← e4, ← e5, ← e6, ← e7]; exact hl
              exact half_has kG (HR2.out rfl) kxb kyb kx0 ky0 hlf
            obtain ⟨A2, c2, hv2e, -⟩ := HV2.out
            have HH := Lib.hid (fun w' (hb : Below wc.heap.size wc w') => has_gr v2 R2 cx cy w' (HV2.out.below hb))
            rw [hh] at HH
            clear hh hv2e
            go_wp2_with fail
            refine (HH.out _ (Below.refl _ _)).mono ?_
            rintro e w9 ⟨rfl, hb9⟩
            go_wp2_with fail
            go_ret
            exact ⟨rfl, by first | exact b9.trans (hb9.mono (by have := b9.size; omega)) | (rw [hB]; exact b9.trans (hb9.mono (by have := b9.size; omega)))⟩
          · have hl' : df < 0 := by omega
            clear hl
            go_wp2_with fail
            all_goals
              go_ret
              exact ⟨rfl, by first | exact b9 | (rw [hB]; exact b9)⟩
  · have hE1' : (E1 != 0) = true := by simpa using hE1
    go_wp2_with fail
    go_ret
    exact ⟨rfl, by rw [hB]; exact b6⟩
end Go.Proofs.Ytnbdnnbeiohmgaa
