/- leg.covers. -/
import Derived.Test.YtnbdnnbeiohmgaaDoorTkA
import Derived.Test.YtnbdnnbeiohmgaaDoorTrA
import Derived.Deep.RegionHeld3
import Derived.Deep.Cut
import Derived.Deep.CutRange
import Derived.BigGuard
namespace Go.Proofs.YtnbdnnbeiohmgaaDoor
open Go.RowKit
open Go.Proofs.Rings (Leg sg)

def CFr (w : World) (B : Nat) (fx fy wx wy far S X Y : Int) : Prop :=
  w.cell? ⟨B, 0, none⟩ = some (.int .i64 fx) ∧ w.cell? ⟨B, 1, none⟩ = some (.int .i64 fy) ∧ w.cell? ⟨B, 2, none⟩ = some (.int .i64 wx) ∧ w.cell? ⟨B, 3, none⟩ = some (.int .i64 wy) ∧ w.cell? ⟨B, 4, none⟩ = some (.int .i64 far) ∧ w.cell? ⟨B + 1, 2, none⟩ = some (.int .i64 S) ∧ w.cell? ⟨B + 1 + 1 + 1, 0, none⟩ = some (.int .i64 X) ∧ w.cell? ⟨B + 1 + 1 + 1, 1, none⟩ = some (.int .i64 Y) ∧ B < w.heap.size ∧ B + 1 < w.heap.size ∧ B + 1 + 1 + 1 < w.heap.size
theorem CFr.below {w w' : World} {B : Nat} {fx fy wx wy far S X Y : Int} (h : CFr w B fx fy wx wy far S X Y) (hb : Below w.heap.size w w') : CFr w' B fx fy wx wy far S X Y := by
  obtain ⟨l0, l1, l2, l3, l4, s2, o0, o1, n0, n1, n3⟩ := h
  have hs := hb.size
  exact ⟨(hb.cell (p := ⟨B, 0, none⟩) n0).trans l0, (hb.cell (p := ⟨B, 1, none⟩) n0).trans l1, (hb.cell (p := ⟨B, 2, none⟩) n0).trans l2, (hb.cell (p := ⟨B, 3, none⟩) n0).trans l3, (hb.cell (p := ⟨B, 4, none⟩) n0).trans l4, (hb.cell (p := ⟨B + 1, 2, none⟩) n1).trans s2, (hb.cell (p := ⟨B + 1 + 1 + 1, 0, none⟩) n3).trans o0, (hb.cell (p := ⟨B + 1 + 1 + 1, 1, none⟩) n3).trans o1, by omega, by omega, by omega⟩
theorem CFr.le {w : World} {B : Nat} {fx fy wx wy far S X Y : Int} (h : CFr w B fx fy wx wy far S X Y) : B ≤ w.heap.size := by
  obtain ⟨-, -, -, -, -, -, -, -, h, -⟩ := h
  omega

theorem corner0 (w : World) : (Instr.index 60 (.agg #[.int .i64 0, .int .i64 0, .int .i64 1, .int .i64 0, .int .i64 0, .int .i64 1, .int .i64 1, .int .i64 1]) (.int .i64 0)).run Tryd.prog w = .ok (.agg #[.int .i64 0, .int .i64 0]) w := by kernel_rfl
theorem corner1 (w : World) : (Instr.index 60 (.agg #[.int .i64 0, .int .i64 0, .int .i64 1, .int .i64 0, .int .i64 0, .int .i64 1, .int .i64 1, .int .i64 1]) (.int .i64 1)).run Tryd.prog w = .ok (.agg #[.int .i64 1, .int .i64 0]) w := by kernel_rfl
theorem corner2 (w : World) : (Instr.index 60 (.agg #[.int .i64 0, .int .i64 0, .int .i64 1, .int .i64 0, .int .i64 0, .int .i64 1, .int .i64 1, .int .i64 1]) (.int .i64 2)).run Tryd.prog w = .ok (.agg #[.int .i64 0, .int .i64 1]) w := by kernel_rfl
theorem corner3 (w : World) : (Instr.index 60 (.agg #[.int .i64 0, .int .i64 0, .int .i64 1, .int .i64 0, .int .i64 0, .int .i64 1, .int .i64 1, .int .i64 1]) (.int .i64 3)).run Tryd.prog w = .ok (.agg #[.int .i64 1, .int .i64 1]) w := by kernel_rfl

set_option maxRecDepth 100000 in
set_option maxHeartbeats 16000000 in
theorem covers_tk (l : Leg) (W H S cx cy wd : Int) (vL : Value) (w : World) : Calls Tryd.prog 34 #[.agg #[.int .i64 l.fx, .int .i64 l.fy, .int .i64 l.wx, .int .i64 l.wy, .int .i64 l.far], .agg #[.int .i64 W, .int .i64 H, .int .i64 S, vL], .agg #[.int .i64 cx, .int .i64 cy], .int .i64 wd] w fun e w' =>
    e = .returned (.bool (covA l S wd cx cy)) ∧ Below w.heap.size w w' := by
  obtain ⟨fx, fy, wx, wy, far⟩ := l
  dsimp only
  obtain ⟨X, hX⟩ : ∃ X, wrap64 (cx * S) = X := ⟨_, rfl⟩
  obtain ⟨Y, hY⟩ : ∃ Y, wrap64 (cy * S) = Y := ⟨_, rfl⟩
  obtain ⟨S1, hS1⟩ : ∃ S1, wrap64 (S - 1) = S1 := ⟨_, rfl⟩
  obtain ⟨P0, hP0⟩ : ∃ P, nearW (⟨fx, fy, wx, wy, far⟩ : Leg) (shW X 0 S1, shW Y 0 S1) wd = P := ⟨_, rfl⟩
  obtain ⟨P1, hP1⟩ : ∃ P, nearW (⟨fx, fy, wx, wy, far⟩ : Leg) (shW X 1 S1, shW Y 0 S1) wd = P := ⟨_, rfl⟩
  obtain ⟨P2, hP2⟩ : ∃ P, nearW (⟨fx, fy, wx, wy, far⟩ : Leg) (shW X 0 S1, shW Y 1 S1) wd = P := ⟨_, rfl⟩
  obtain ⟨P3, hP3⟩ : ∃ P, nearW (⟨fx, fy, wx, wy, far⟩ : Leg) (shW X 1 S1, shW Y 1 S1) wd = P := ⟨_, rfl⟩
  have hcov : covA (⟨fx, fy, wx, wy, far⟩ : Leg) S wd cx cy = (P0 && P1 && P2 && P3) := by
    unfold covA
    rw [hX, hY, hS1, hP0, hP1, hP2, hP3]
  obtain ⟨C, hC⟩ : ∃ C, covA (⟨fx, fy, wx, wy, far⟩ : Leg) S wd cx cy = C := ⟨_, rfl⟩
  rw [hC] at hcov ⊢
  have eS1 : IntKind.i64.wrap (S - 1) = S1 := by rw [IntWalk.i64_left]; exact hS1
  have HCov := Lib.hid hcov
  have HP0 := Lib.hid hP0
  have HP1 := Lib.hid hP1
  have HP2 := Lib.hid hP2
  have HP3 := Lib.hid hP3
  clear hcov hP0 hP1 hP2 hP3 hC
  go_enter Tryd.func34, Tryd.ntmps34
  go_upto_region 2 with fail
  have b1 : Below w.heap.size w ((((w.alloc (.cells #[.int .i64 fx, .int .i64 fy, .int .i64 wx, .int .i64 wy, .int .i64 far] 68)).alloc (.cells #[.int .i64 W, .int .i64 H, .int .i64 S, vL] 37)).alloc (.cells #[.int .i64 cx, .int .i64 cy] 77)).alloc (.cells #[.int .i64 X, .int .i64 Y] 23)) := ((((Below.refl w.heap.size w).alloc (Nat.le_refl _) _).alloc (by simp) _).alloc (by simp; omega) _).alloc (by simp; omega) _
  have M0 : CFr ((((w.alloc (.cells #[.int .i64 fx, .int .i64 fy, .int .i64 wx, .int .i64 wy, .int .i64 far] 68)).alloc (.cells #[.int .i64 W, .int .i64 H, .int .i64 S, vL] 37)).alloc (.cells #[.int .i64 cx, .int .i64 cy] 77)).alloc (.cells #[.int .i64 X, .int .i64 Y] 23)) w.heap.size fx fy wx wy far S X Y := by
    refine ⟨?_, ?_, ?_, ?_, ?_, ?_, ?_, ?_, ?_, ?_, ?_⟩ <;> simp [go_sem] <;> omega
  have M := Lib.hid M0
  clear M0
  obtain ⟨w1, hw1⟩ : ∃ w1, ((((w.alloc (.cells #[.int .i64 fx, .int .i64 fy, .int .i64 wx, .int .i64 wy, .int .i64 far] 68)).alloc (.cells #[.int .i64 W, .int .i64 H, .int .i64 S, vL] 37)).alloc (.cells #[.int .i64 cx, .int .i64 cy] 77)).alloc (.cells #[.int .i64 X, .int .i64 Y] 23)) = w1 := ⟨_, rfl⟩
  rw [hw1] at b1 M ⊢
  clear hw1
  obtain ⟨B, hB⟩ : ∃ B, w.heap.size = B := ⟨_, rfl⟩
  rw [hB] at b1 M ⊢
  rw [hX, hY]
  clear hX hY
  go_wp2_with fail
  go_loopw [28] (fun i wr => ∃ k : Nat, k ≤ 4 ∧ i = .int .i64 k ∧ ((0 < k → P0 = true) ∧ (1 < k → P1 = true) ∧ (2 < k → P2 = true) ∧ (3 < k → P3 = true)) ∧ CFr wr B fx fy wx wy far S X Y ∧ Below B w wr) (fun i _ => 4 - (intOf i).toNat)
  case atStart => exact ⟨0, by omega, rfl, ⟨fun h => by omega, fun h => by omega, fun h => by omega, fun h => by omega⟩, M.out, b1⟩
  case round =>
    obtain ⟨k, hk, rfl, hpr, hM, hb⟩ := hrel
    have M := Lib.hid hM
    have HPr := Lib.hid hpr
    clear b1 hM hpr
    obtain rfl | rfl | rfl | rfl | rfl : k = 0 ∨ k = 1 ∨ k = 2 ∨ k = 3 ∨ k = 4 := by omega
    · clear hk
      have hix := corner0
      go_upto_region 5 with fail
      clear hix
      have he : Below wr.heap.size wr (wr.alloc (.cells #[.int .i64 0, .int .i64 0] 59)) := (Below.refl _ _).alloc (Nat.le_refl _) _
      have M2 := Lib.hid (M.out.below he)
      have v0 : (wr.alloc (.cells #[.int .i64 0, .int .i64 0] 59)).cell? ⟨wr.heap.size, 0, none⟩ = some (.int .i64 0) := by simp [go_sem]
      have v1 : (wr.alloc (.cells #[.int .i64 0, .int .i64 0] 59)).cell? ⟨wr.heap.size, 1, none⟩ = some (.int .i64 0) := by simp [go_sem]
      have nV : wr.heap.size < (wr.alloc (.cells #[.int .i64 0, .int .i64 0] 59)).heap.size := by simp
      have hb2 := hb.trans (he.mono (by have := M.out.le; omega))
      obtain ⟨we, hwe⟩ : ∃ we, wr.alloc (.cells #[.int .i64 0, .int .i64 0] 59) = we := ⟨_, rfl⟩
      rw [hwe] at M2 v0 v1 nV hb2 ⊢
      obtain ⟨V, hV⟩ : ∃ V, wr.heap.size = V := ⟨_, rfl⟩
      rw [hV] at v0 v1 nV ⊢
      clear hwe he hV
      obtain ⟨l0, l1, l2, l3, l4, s2, o0, o1, n0, n1, n3⟩ := M2.out
      have HSh := Lib.hid (fun w => shifted_tk X Y 0 0 S1 w)
      obtain ⟨px, hpx⟩ : ∃ q, shW X 0 S1 = q := ⟨_, rfl⟩
      obtain ⟨py, hpy⟩ : ∃ q, shW Y 0 S1 = q := ⟨_, rfl⟩
      rw [hpx, hpy] at HSh
      have HNe := Lib.hid (fun w => near_tk (⟨fx, fy, wx, wy, far⟩ : Leg) px py wd w)
      dsimp only at HNe
      rw [show nearW (⟨fx, fy, wx, wy, far⟩ : Leg) (px, py) wd = P0 from by rw [← hpx, ← hpy]; exact HP0.out] at HNe
      clear hpx hpy
      go_region_held3 (fun W' => W'.cell? ⟨B, 0, none⟩ = some (.int .i64 fx) ∧ W'.cell? ⟨B, 1, none⟩ = some (.int .i64 fy) ∧ W'.cell? ⟨B, 2, none⟩ = some (.int .i64 wx) ∧ W'.cell? ⟨B, 3, none⟩ = some (.int .i64 wy) ∧ W'.cell? ⟨B, 4, none⟩ = some (.int .i64 far) ∧ W'.cell? ⟨B + 1, 2, none⟩ = some (.int .i64 S) ∧ W'.cell? ⟨B + 1 + 1 + 1, 0, none⟩ = some (.int .i64 X) ∧ W'.cell? ⟨B + 1 + 1 + 1, 1, none⟩ = some (.int .i64 Y) ∧ W'.cell? ⟨V, 0, none⟩ = some (.int .i64 0) ∧ W'.cell? ⟨V, 1, none⟩ = some (.int .i64 0))
        (first | exact ⟨l0, l1, l2, l3, l4, s2, o0, o1, v0, v1⟩ | exact ⟨al0, al1, al2, al3, al4, as2, ao0, ao1, av0, av1⟩ | exact ⟨bl0, bl1, bl2, bl3, bl4, bs2, bo0, bo1, bv0, bv1⟩)
        (first | (go_at_call 23; (with_reducible refine (HSh.out _).mono ?_); rintro e wa ⟨rfl, hba⟩; have hba' : Below we.heap.size we wa := ⟨hba.os, hba.tape, hba.output, hba.size, hba.block⟩; have al0 := (hba'.cell (p := ⟨B, 0, none⟩) n0).trans l0; have al1 := (hba'.cell (p := ⟨B, 1, none⟩) n0).trans l1; have al2 := (hba'.cell (p := ⟨B, 2, none⟩) n0).trans l2; have al3 := (hba'.cell (p := ⟨B, 3, none⟩) n0).trans l3; have al4 := (hba'.cell (p := ⟨B, 4, none⟩) n0).trans l4; have as2 := (hba'.cell (p := ⟨B + 1, 2, none⟩) n1).trans s2; have ao0 := (hba'.cell (p := ⟨B + 1 + 1 + 1, 0, none⟩) n3).trans o0; have ao1 := (hba'.cell (p := ⟨B + 1 + 1 + 1, 1, none⟩) n3).trans o1; have av0 := (hba'.cell (p := ⟨V, 0, none⟩) nV).trans v0; have av1 := (hba'.cell (p := ⟨V, 1, none⟩) nV).trans v1; skip) | (go_at_call 26; (with_reducible refine (HNe.out _).mono ?_); rintro e wb ⟨rfl, hbb⟩; have hbb' : Below wa.heap.size wa wb := ⟨hbb.os, hbb.tape, hbb.output, hbb.size, hbb.block⟩; have bl0 := (hbb'.cell (p := ⟨B, 0, none⟩) (Nat.lt_of_lt_of_le n0 hba'.size)).trans al0; have bl1 := (hbb'.cell (p := ⟨B, 1, none⟩) (Nat.lt_of_lt_of_le n0 hba'.size)).trans al1; have bl2 := (hbb'.cell (p := ⟨B, 2, none⟩) (Nat.lt_of_lt_of_le n0 hba'.size)).trans al2; have bl3 := (hbb'.cell (p := ⟨B, 3, none⟩) (Nat.lt_of_lt_of_le n0 hba'.size)).trans al3; have bl4 := (hbb'.cell (p := ⟨B, 4, none⟩) (Nat.lt_of_lt_of_le n0 hba'.size)).trans al4; have bs2 := (hbb'.cell (p := ⟨B + 1, 2, none⟩) (Nat.lt_of_lt_of_le n1 hba'.size)).trans as2; have bo0 := (hbb'.cell (p := ⟨B + 1 + 1 + 1, 0, none⟩) (Nat.lt_of_lt_of_le n3 hba'.size)).trans ao0; have bo1 := (hbb'.cell (p := ⟨B + 1 + 1 + 1, 1, none⟩) (Nat.lt_of_lt_of_le n3 hba'.size)).trans ao1; have bv0 := (hbb'.cell (p := ⟨V, 0, none⟩) (Nat.lt_of_lt_of_le nV hba'.size)).trans av0; have bv1 := (hbb'.cell (p := ⟨V, 1, none⟩) (Nat.lt_of_lt_of_le nV hba'.size)).trans av1; skip))
      rename_i hHeld
      clear hHeld
      have hsa := hba'.size
      have hsb := hbb'.size
      have M3 := Lib.hid ((M2.out.below hba').below hbb')
      have hb5 := (hb2.trans (hba'.mono (by omega))).trans (hbb'.mono (by omega))
      clear hba hba' hbb hbb' hb hb2 hsa hsb l0 l1 l2 l3 l4 s2 o0 o1 v0 v1 al0 al1 al2 al3 al4 as2 ao0 ao1 av0 av1 bl0 bl1 bl2 bl3 bl4 bs2 bo0 bo1 bv0 bv1 n0 n1 n3 nV
      cases hP0 : P0 with
      | false =>
        rw [hP0] at HP0
        go_wp2_with fail
        go_ret
        exact ⟨ret_of (congrArg Value.bool (by rw [HCov.out, hP0]; simp)), by first | exact hb5 | (rw [hB]; exact hb5)⟩
      | true =>
        rw [hP0] at HP0
        go_wp2_with fail
        go_roundw
        case rel => exact ⟨1, by omega, by go_num, ⟨fun _ => hP0, fun h => by omega, fun h => by omega, fun h => by omega⟩, M3.out, hb5⟩
        case measure => simp [intOf]
    · clear hk
      have hix := corner1
      go_upto_region 5 with fail
      clear hix
      have he : Below wr.heap.size wr (wr.alloc (.cells #[.int .i64 1, .int .i64 0] 59)) := (Below.refl _ _).alloc (Nat.le_refl _) _
      have M2 := Lib.hid (M.out.below he)
      have v0 : (wr.alloc (.cells #[.int .i64 1, .int .i64 0] 59)).cell? ⟨wr.heap.size, 0, none⟩ = some (.int .i64 1) := by simp [go_sem]
      have v1 : (wr.alloc (.cells #[.int .i64 1, .int .i64 0] 59)).cell? ⟨wr.heap.size, 1, none⟩ = some (.int .i64 0) := by simp [go_sem]
      have nV : wr.heap.size < (wr.alloc (.cells #[.int .i64 1, .int .i64 0] 59)).heap.size := by simp
      have hb2 := hb.trans (he.mono (by have := M.out.le; omega))
      obtain ⟨we, hwe⟩ : ∃ we, wr.alloc (.cells #[.int .i64 1, .int .i64 0] 59) = we := ⟨_, rfl⟩
      rw [hwe] at M2 v0 v1 nV hb2 ⊢
      obtain ⟨V, hV⟩ : ∃ V, wr.heap.size = V := ⟨_, rfl⟩
      rw [hV] at v0 v1 nV ⊢
      clear hwe he hV
      obtain ⟨l0, l1, l2, l3, l4, s2, o0, o1, n0, n1, n3⟩ := M2.out
      have HSh := Lib.hid (fun w => shifted_tk X Y 1 0 S1 w)
      obtain ⟨px, hpx⟩ : ∃ q, shW X 1 S1 = q := ⟨_, rfl⟩
      obtain ⟨py, hpy⟩ : ∃ q, shW Y 0 S1 = q := ⟨_, rfl⟩
      rw [hpx, hpy] at HSh
      have HNe := Lib.hid (fun w => near_tk (⟨fx, fy, wx, wy, far⟩ : Leg) px py wd w)
      dsimp only at HNe
      rw [show nearW (⟨fx, fy, wx, wy, far⟩ : Leg) (px, py) wd = P1 from by rw [← hpx, ← hpy]; exact HP1.out] at HNe
      clear hpx hpy
      go_region_held3 (fun W' => W'.cell? ⟨B, 0, none⟩ = some (.int .i64 fx) ∧ W'.cell? ⟨B, 1, none⟩ = some (.int .i64 fy) ∧ W'.cell? ⟨B, 2, none⟩ = some (.int .i64 wx) ∧ W'.cell? ⟨B, 3, none⟩ = some (.int .i64 wy) ∧ W'.cell? ⟨B, 4, none⟩ = some (.int .i64 far) ∧ W'.cell? ⟨B + 1, 2, none⟩ = some (.int .i64 S) ∧ W'.cell? ⟨B + 1 + 1 + 1, 0, none⟩ = some (.int .i64 X) ∧ W'.cell? ⟨B + 1 + 1 + 1, 1, none⟩ = some (.int .i64 Y) ∧ W'.cell? ⟨V, 0, none⟩ = some (.int .i64 1) ∧ W'.cell? ⟨V, 1, none⟩ = some (.int .i64 0))
        (first | exact ⟨l0, l1, l2, l3, l4, s2, o0, o1, v0, v1⟩ | exact ⟨al0, al1, al2, al3, al4, as2, ao0, ao1, av0, av1⟩ | exact ⟨bl0, bl1, bl2, bl3, bl4, bs2, bo0, bo1, bv0, bv1⟩)
        (first | (go_at_call 23; (with_reducible refine (HSh.out _).mono ?_); rintro e wa ⟨rfl, hba⟩; have hba' : Below we.heap.size we wa := ⟨hba.os, hba.tape, hba.output, hba.size, hba.block⟩; have al0 := (hba'.cell (p := ⟨B, 0, none⟩) n0).trans l0; have al1 := (hba'.cell (p := ⟨B, 1, none⟩) n0).trans l1; have al2 := (hba'.cell (p := ⟨B, 2, none⟩) n0).trans l2; have al3 := (hba'.cell (p := ⟨B, 3, none⟩) n0).trans l3; have al4 := (hba'.cell (p := ⟨B, 4, none⟩) n0).trans l4; have as2 := (hba'.cell (p := ⟨B + 1, 2, none⟩) n1).trans s2; have ao0 := (hba'.cell (p := ⟨B + 1 + 1 + 1, 0, none⟩) n3).trans o0; have ao1 := (hba'.cell (p := ⟨B + 1 + 1 + 1, 1, none⟩) n3).trans o1; have av0 := (hba'.cell (p := ⟨V, 0, none⟩) nV).trans v0; have av1 := (hba'.cell (p := ⟨V, 1, none⟩) nV).trans v1; skip) | (go_at_call 26; (with_reducible refine (HNe.out _).mono ?_); rintro e wb ⟨rfl, hbb⟩; have hbb' : Below wa.heap.size wa wb := ⟨hbb.os, hbb.tape, hbb.output, hbb.size, hbb.block⟩; have bl0 := (hbb'.cell (p := ⟨B, 0, none⟩) (Nat.lt_of_lt_of_le n0 hba'.size)).trans al0; have bl1 := (hbb'.cell (p := ⟨B, 1, none⟩) (Nat.lt_of_lt_of_le n0 hba'.size)).trans al1; have bl2 := (hbb'.cell (p := ⟨B, 2, none⟩) (Nat.lt_of_lt_of_le n0 hba'.size)).trans al2; have bl3 := (hbb'.cell (p := ⟨B, 3, none⟩) (Nat.lt_of_lt_of_le n0 hba'.size)).trans al3; have bl4 := (hbb'.cell (p := ⟨B, 4, none⟩) (Nat.lt_of_lt_of_le n0 hba'.size)).trans al4; have bs2 := (hbb'.cell (p := ⟨B + 1, 2, none⟩) (Nat.lt_of_lt_of_le n1 hba'.size)).trans as2; have bo0 := (hbb'.cell (p := ⟨B + 1 + 1 + 1, 0, none⟩) (Nat.lt_of_lt_of_le n3 hba'.size)).trans ao0; have bo1 := (hbb'.cell (p := ⟨B + 1 + 1 + 1, 1, none⟩) (Nat.lt_of_lt_of_le n3 hba'.size)).trans ao1; have bv0 := (hbb'.cell (p := ⟨V, 0, none⟩) (Nat.lt_of_lt_of_le nV hba'.size)).trans av0; have bv1 := (hbb'.cell (p := ⟨V, 1, none⟩) (Nat.lt_of_lt_of_le nV hba'.size)).trans av1; skip))
      rename_i hHeld
      clear hHeld
      have hsa := hba'.size
      have hsb := hbb'.size
      have M3 := Lib.hid ((M2.out.below hba').below hbb')
      have hb5 := (hb2.trans (hba'.mono (by omega))).trans (hbb'.mono (by omega))
      clear hba hba' hbb hbb' hb hb2 hsa hsb l0 l1 l2 l3 l4 s2 o0 o1 v0 v1 al0 al1 al2 al3 al4 as2 ao0 ao1 av0 av1 bl0 bl1 bl2 bl3 bl4 bs2 bo0 bo1 bv0 bv1 n0 n1 n3 nV
      cases hP1 : P1 with
      | false =>
        rw [hP1] at HP1
        go_wp2_with fail
        go_ret
        exact ⟨ret_of (congrArg Value.bool (by rw [HCov.out, hP1]; simp)), by first | exact hb5 | (rw [hB]; exact hb5)⟩
      | true =>
        rw [hP1] at HP1
        go_wp2_with fail
        go_roundw
        case rel => exact ⟨2, by omega, by go_num, ⟨fun _ => HPr.out.1 (by omega), fun _ => hP1, fun h => by omega, fun h => by omega⟩, M3.out, hb5⟩
        case measure => simp [intOf]
    · clear hk
      have hix := corner2
      go_upto_region 5 with fail
      clear hix
      have he : Below wr.heap.size wr (wr.alloc (.cells #[.int .i64 0, .int .i64 1] 59)) := (Below.refl _ _).alloc (Nat.le_refl _) _
      have M2 := Lib.hid (M.out.below he)
      have v0 : (wr.alloc (.cells #[.int .i64 0, .int .i64 1] 59)).cell? ⟨wr.heap.size, 0, none⟩ = some (.int .i64 0) := by simp [go_sem]
      have v1 : (wr.alloc (.cells #[.int .i64 0, .int .i64 1] 59)).cell? ⟨wr.heap.size, 1, none⟩ = some (.int .i64 1) := by simp [go_sem]
      have nV : wr.heap.size < (wr.alloc (.cells #[.int .i64 0, .int .i64 1] 59)).heap.size := by simp
      have hb2 := hb.trans (he.mono (by have := M.out.le; omega))
      obtain ⟨we, hwe⟩ : ∃ we, wr.alloc (.cells #[.int .i64 0, .int .i64 1] 59) = we := ⟨_, rfl⟩
      rw [hwe] at M2 v0 v1 nV hb2 ⊢
      obtain ⟨V, hV⟩ : ∃ V, wr.heap.size = V := ⟨_, rfl⟩
      rw [hV] at v0 v1 nV ⊢
      clear hwe he hV
      obtain ⟨l0, l1, l2, l3, l4, s2, o0, o1, n0, n1, n3⟩ := M2.out
      have HSh := Lib.hid (fun w => shifted_tk X Y 0 1 S1 w)
      obtain ⟨px, hpx⟩ : ∃ q, shW X 0 S1 = q := ⟨_, rfl⟩
      obtain ⟨py, hpy⟩ : ∃ q, shW Y 1 S1 = q := ⟨_, rfl⟩
      rw [hpx, hpy] at HSh
      have HNe := Lib.hid (fun w => near_tk (⟨fx, fy, wx, wy, far⟩ : Leg) px py wd w)
      dsimp only at HNe
      rw [show nearW (⟨fx, fy, wx, wy, far⟩ : Leg) (px, py) wd = P2 from by rw [← hpx, ← hpy]; exact HP2.out] at HNe
      clear hpx hpy
      go_region_held3 (fun W' => W'.cell? ⟨B, 0, none⟩ = some (.int .i64 fx) ∧ W'.cell? ⟨B, 1, none⟩ = some (.int .i64 fy) ∧ W'.cell? ⟨B, 2, none⟩ = some (.int .i64 wx) ∧ W'.cell? ⟨B, 3, none⟩ = some (.int .i64 wy) ∧ W'.cell? ⟨B, 4, none⟩ = some (.int .i64 far) ∧ W'.cell? ⟨B + 1, 2, none⟩ = some (.int .i64 S) ∧ W'.cell? ⟨B + 1 + 1 + 1, 0, none⟩ = some (.int .i64 X) ∧ W'.cell? ⟨B + 1 + 1 + 1, 1, none⟩ = some (.int .i64 Y) ∧ W'.cell? ⟨V, 0, none⟩ = some (.int .i64 0) ∧ W'.cell? ⟨V, 1, none⟩ = some (.int .i64 1))
        (first | exact ⟨l0, l1, l2, l3, l4, s2, o0, o1, v0, v1⟩ | exact ⟨al0, al1, al2, al3, al4, as2, ao0, ao1, av0, av1⟩ | exact ⟨bl0, bl1, bl2, bl3, bl4, bs2, bo0, bo1, bv0, bv1⟩)
        (first | (go_at_call 23; (with_reducible refine (HSh.out _).mono ?_); rintro e wa ⟨rfl, hba⟩; have hba' : Below we.heap.size we wa := ⟨hba.os, hba.tape, hba.output, hba.size, hba.block⟩; have al0 := (hba'.cell (p := ⟨B, 0, none⟩) n0).trans l0; have al1 := (hba'.cell (p := ⟨B, 1, none⟩) n0).trans l1; have al2 := (hba'.cell (p := ⟨B, 2, none⟩) n0).trans l2; have al3 := (hba'.cell (p := ⟨B, 3, none⟩) n0).trans l3; have al4 := (hba'.cell (p := ⟨B, 4, none⟩) n0).trans l4; have as2 := (hba'.cell (p := ⟨B + 1, 2, none⟩) n1).trans s2; have ao0 := (hba'.cell (p := ⟨B + 1 + 1 + 1, 0, none⟩) n3).trans o0; have ao1 := (hba'.cell (p := ⟨B + 1 + 1 + 1, 1, none⟩) n3).trans o1; have av0 := (hba'.cell (p := ⟨V, 0, none⟩) nV).trans v0; have av1 := (hba'.cell (p := ⟨V, 1, none⟩) nV).trans v1; skip) | (go_at_call 26; (with_reducible refine (HNe.out _).mono ?_); rintro e wb ⟨rfl, hbb⟩; have hbb' : Below wa.heap.size wa wb := ⟨hbb.os, hbb.tape, hbb.output, hbb.size, hbb.block⟩; have bl0 := (hbb'.cell (p := ⟨B, 0, none⟩) (Nat.lt_of_lt_of_le n0 hba'.size)).trans al0; have bl1 := (hbb'.cell (p := ⟨B, 1, none⟩) (Nat.lt_of_lt_of_le n0 hba'.size)).trans al1; have bl2 := (hbb'.cell (p := ⟨B, 2, none⟩) (Nat.lt_of_lt_of_le n0 hba'.size)).trans al2; have bl3 := (hbb'.cell (p := ⟨B, 3, none⟩) (Nat.lt_of_lt_of_le n0 hba'.size)).trans al3; have bl4 := (hbb'.cell (p := ⟨B, 4, none⟩) (Nat.lt_of_lt_of_le n0 hba'.size)).trans al4; have bs2 := (hbb'.cell (p := ⟨B + 1, 2, none⟩) (Nat.lt_of_lt_of_le n1 hba'.size)).trans as2; have bo0 := (hbb'.cell (p := ⟨B + 1 + 1 + 1, 0, none⟩) (Nat.lt_of_lt_of_le n3 hba'.size)).trans ao0; have bo1 := (hbb'.cell (p := ⟨B + 1 + 1 + 1, 1, none⟩) (Nat.lt_of_lt_of_le n3 hba'.size)).trans ao1; have bv0 := (hbb'.cell (p := ⟨V, 0, none⟩) (Nat.lt_of_lt_of_le nV hba'.size)).trans av0; have bv1 := (hbb'.cell (p := ⟨V, 1, none⟩) (Nat.lt_of_lt_of_le nV hba'.size)).trans av1; skip))
      rename_i hHeld
      clear hHeld
      have hsa := hba'.size
      have hsb := hbb'.size
      have M3 := Lib.hid ((M2.out.below hba').below hbb')
      have hb5 := (hb2.trans (hba'.mono (by omega))).trans (hbb'.mono (by omega))
      clear hba hba' hbb hbb' hb hb2 hsa hsb l0 l1 l2 l3 l4 s2 o0 o1 v0 v1 al0 al1 al2 al3 al4 as2 ao0 ao1 av0 av1 bl0 bl1 bl2 bl3 bl4 bs2 bo0 bo1 bv0 bv1 n0 n1 n3 nV
      cases hP2 : P2 with
      | false =>
        rw [hP2] at HP2
        go_wp2_with fail
        go_ret
        exact ⟨ret_of (congrArg Value.bool (by rw [HCov.out, hP2]; simp)), by first | exact hb5 | (rw [hB]; exact hb5)⟩
      | true =>
        rw [hP2] at HP2
        go_wp2_with fail
        go_roundw
        case rel => exact ⟨3, by omega, by go_num, ⟨fun _ => HPr.out.1 (by omega), fun _ => HPr.out.2.1 (by omega), fun _ => hP2, fun h => by omega⟩, M3.out, hb5⟩
        case measure => simp [intOf]
    · clear hk
      have hix := corner3
      go_upto_region 5 with fail
      clear hix
      have he : Below wr.heap.size wr (wr.alloc (.cells #[.int .i64 1, .int .i64 1] 59)) := (Below.refl _ _).alloc (Nat.le_refl _) _
      have M2 := Lib.hid (M.out.below he)
      have v0 : (wr.alloc (.cells #[.int .i64 1, .int .i64 1] 59)).cell? ⟨wr.heap.size, 0, none⟩ = some (.int .i64 1) := by simp [go_sem]
      have v1 : (wr.alloc (.cells #[.int .i64 1, .int .i64 1] 59)).cell? ⟨wr.heap.size, 1, none⟩ = some (.int .i64 1) := by simp [go_sem]
      have nV : wr.heap.size < (wr.alloc (.cells #[.int .i64 1, .int .i64 1] 59)).heap.size := by simp
      have hb2 := hb.trans (he.mono (by have := M.out.le; omega))
      obtain ⟨we, hwe⟩ : ∃ we, wr.alloc (.cells #[.int .i64 1, .int .i64 1] 59) = we := ⟨_, rfl⟩
      rw [hwe] at M2 v0 v1 nV hb2 ⊢
      obtain ⟨V, hV⟩ : ∃ V, wr.heap.size = V := ⟨_, rfl⟩
      rw [hV] at v0 v1 nV ⊢
      clear hwe he hV
      obtain ⟨l0, l1, l2, l3, l4, s2, o0, o1, n0, n1, n3⟩ := M2.out
      have HSh := Lib.hid (fun w => shifted_tk X Y 1 1 S1 w)
      obtain ⟨px, hpx⟩ : ∃ q, shW X 1 S1 = q := ⟨_, rfl⟩
      obtain ⟨py, hpy⟩ : ∃ q, shW Y 1 S1 = q := ⟨_, rfl⟩
      rw [hpx, hpy] at HSh
      have HNe := Lib.hid (fun w => near_tk (⟨fx, fy, wx, wy, far⟩ : Leg) px py wd w)
      dsimp only at HNe
      rw [show nearW (⟨fx, fy, wx, wy, far⟩ : Leg) (px, py) wd = P3 from by rw [← hpx, ← hpy]; exact HP3.out] at HNe
      clear hpx hpy
      go_region_held3 (fun W' => W'.cell? ⟨B, 0, none⟩ = some (.int .i64 fx) ∧ W'.cell? ⟨B, 1, none⟩ = some (.int .i64 fy) ∧ W'.cell? ⟨B, 2, none⟩ = some (.int .i64 wx) ∧ W'.cell? ⟨B, 3, none⟩ = some (.int .i64 wy) ∧ W'.cell? ⟨B, 4, none⟩ = some (.int .i64 far) ∧ W'.cell? ⟨B + 1, 2, none⟩ = some (.int .i64 S) ∧ W'.cell? ⟨B + 1 + 1 + 1, 0, none⟩ = some (.int .i64 X) ∧ W'.cell? ⟨B + 1 + 1 + 1, 1, none⟩ = some (.int .i64 Y) ∧ W'.cell? ⟨V, 0, none⟩ = some (.int .i64 1) ∧ W'.cell? ⟨V, 1, none⟩ = some (.int .i64 1))
        (first | exact ⟨l0, l1, l2, l3, l4, s2, o0, o1, v0, v1⟩ | exact ⟨al0, al1, al2, al3, al4, as2, ao0, ao1, av0, av1⟩ | exact ⟨bl0, bl1, bl2, bl3, bl4, bs2, bo0, bo1, bv0, bv1⟩)
        (first | (go_at_call 23; (with_reducible refine (HSh.out _).mono ?_); rintro e wa ⟨rfl, hba⟩; have hba' : Below we.heap.size we wa := ⟨hba.os, hba.tape, hba.output, hba.size, hba.block⟩; have al0 := (hba'.cell (p := ⟨B, 0, none⟩) n0).trans l0; have al1 := (hba'.cell (p := ⟨B, 1, none⟩) n0).trans l1; have al2 := (hba'.cell (p := ⟨B, 2, none⟩) n0).trans l2; have al3 := (hba'.cell (p := ⟨B, 3, none⟩) n0).trans l3; have al4 := (hba'.cell (p := ⟨B, 4, none⟩) n0).trans l4; have as2 := (hba'.cell (p := ⟨B + 1, 2, none⟩) n1).trans s2; have ao0 := (hba'.cell (p := ⟨B + 1 + 1 + 1, 0, none⟩) n3).trans o0; have ao1 := (hba'.cell (p := ⟨B + 1 + 1 + 1, 1, none⟩) n3).trans o1; have av0 := (hba'.cell (p := ⟨V, 0, none⟩) nV).trans v0; have av1 := (hba'.cell (p := ⟨V, 1, none⟩) nV).trans v1; skip) | (go_at_call 26; (with_reducible refine (HNe.out _).mono ?_); rintro e wb ⟨rfl, hbb⟩; have hbb' : Below wa.heap.size wa wb := ⟨hbb.os, hbb.tape, hbb.output, hbb.size, hbb.block⟩; have bl0 := (hbb'.cell (p := ⟨B, 0, none⟩) (Nat.lt_of_lt_of_le n0 hba'.size)).trans al0; have bl1 := (hbb'.cell (p := ⟨B, 1, none⟩) (Nat.lt_of_lt_of_le n0 hba'.size)).trans al1; have bl2 := (hbb'.cell (p := ⟨B, 2, none⟩) (Nat.lt_of_lt_of_le n0 hba'.size)).trans al2; have bl3 := (hbb'.cell (p := ⟨B, 3, none⟩) (Nat.lt_of_lt_of_le n0 hba'.size)).trans al3; have bl4 := (hbb'.cell (p := ⟨B, 4, none⟩) (Nat.lt_of_lt_of_le n0 hba'.size)).trans al4; have bs2 := (hbb'.cell (p := ⟨B + 1, 2, none⟩) (Nat.lt_of_lt_of_le n1 hba'.size)).trans as2; have bo0 := (hbb'.cell (p := ⟨B + 1 + 1 + 1, 0, none⟩) (Nat.lt_of_lt_of_le n3 hba'.size)).trans ao0; have bo1 := (hbb'.cell (p := ⟨B + 1 + 1 + 1, 1, none⟩) (Nat.lt_of_lt_of_le n3 hba'.size)).trans ao1; have bv0 := (hbb'.cell (p := ⟨V, 0, none⟩) (Nat.lt_of_lt_of_le nV hba'.size)).trans av0; have bv1 := (hbb'.cell (p := ⟨V, 1, none⟩) (Nat.lt_of_lt_of_le nV hba'.size)).trans av1; skip))
      rename_i hHeld
      clear hHeld
      have hsa := hba'.size
      have hsb := hbb'.size
      have M3 := Lib.hid ((M2.out.below hba').below hbb')
      have hb5 := (hb2.trans (hba'.mono (by omega))).trans (hbb'.mono (by omega))
      clear hba hba' hbb hbb' hb hb2 hsa hsb l0 l1 l2 l3 l4 s2 o0 o1 v0 v1 al0 al1 al2 al3 al4 as2 ao0 ao1 av0 av1 bl0 bl1 bl2 bl3 bl4 bs2 bo0 bo1 bv0 bv1 n0 n1 n3 nV
      cases hP3 : P3 with
      | false =>
        rw [hP3] at HP3
        go_wp2_with fail
        go_ret
        exact ⟨ret_of (congrArg Value.bool (by rw [HCov.out, hP3]; simp)), by first | exact hb5 | (rw [hB]; exact hb5)⟩
      | true =>
        rw [hP3] at HP3
        go_wp2_with fail
        go_roundw
        case rel => exact ⟨4, by omega, by go_num, ⟨fun _ => HPr.out.1 (by omega), fun _ => HPr.out.2.1 (by omega), fun _ => HPr.out.2.2.1 (by omega), fun _ => hP3⟩, M3.out, hb5⟩
        case measure => simp [intOf]
    · go_wp2_with fail
      go_ret
      exact ⟨ret_of (congrArg Value.bool (by
        have h := HPr.out
        rw [HCov.out, h.1 (by omega), h.2.1 (by omega), h.2.2.1 (by omega), h.2.2.2 (by omega)]
        rfl)), by first | exact hb | (rw [hB]; exact hb)⟩
end Go.Proofs.YtnbdnnbeiohmgaaDoor
