/- The contract of leg.near: what it comes to, with all wraps. -/
import Derived.Test.YtnbdnnbeiohmgaaDoorTkLeaf
namespace Go.Proofs.YtnbdnnbeiohmgaaDoor
open Go.RowKit
open Go.Proofs.Rings (Leg sg)

set_option maxRecDepth 100000 in
set_option maxHeartbeats 1000000 in
theorem near_tk (l : Leg) (sx sy wd : Int) (w : World) : Calls Tryd.prog 26 #[.agg #[.int .i64 l.fx, .int .i64 l.fy, .int .i64 l.wx, .int .i64 l.wy, .int .i64 l.far], .agg #[.int .i64 sx, .int .i64 sy], .int .i64 wd] w fun e w' =>
    e = .returned (.bool (nearW l (sx, sy) wd)) ∧ Below w.heap.size w w' := by
  obtain ⟨fx, fy, wx, wy, far⟩ := l
  dsimp only
  have d0 : aheadW ⟨fx, fy, wx, wy, far⟩ (sx, sy) = wrap64 (wrap64 (wrap64 (sx - fx) * wx) + wrap64 (wrap64 (sy - fy) * wy)) := rfl
  have d1 : unitW ⟨fx, fy, wx, wy, far⟩ = wrap64 (wrap64 (wx * wx) + wrap64 (wy * wy)) := rfl
  have D0 := Lib.hid d0
  have D1 := Lib.hid d1
  clear d0 d1
  go_enter Tryd.func26, Tryd.ntmps26
  go_wp2_with fail
  go_quiet (fail)
  go_wp2_with fail
  go_quiet (fail)
  go_wp2_with fail
  · go_ret
    have h : wrap64 (wrap64 (wrap64 (sx - fx) * wx) + wrap64 (wrap64 (sy - fy) * wy)) < 0 := by assumption
    refine ⟨ret_of (by simp only [nearW, D0.out, if_pos h]; rfl), ?_⟩
    exact below_drewN (((Below.refl _ _).alloc (Nat.le_refl _) _).alloc (by simp) _) _
  · refine (shifted_tk _ _ _ _ _ _).mono ?_
    rintro e w1 ⟨rfl, hb⟩
    have h : ¬ wrap64 (wrap64 (wrap64 (sx - fx) * wx) + wrap64 (wrap64 (sy - fy) * wy)) < 0 := by
      have : 0 ≤ wrap64 (wrap64 (wrap64 (sx - fx) * wx) + wrap64 (wrap64 (sy - fy) * wy)) := by assumption
      omega
    have h2 : wrap64 (far * wrap64 (wrap64 (wx * wx) + wrap64 (wy * wy))) < wrap64 (wrap64 (wrap64 (sx - fx) * wx) + wrap64 (wrap64 (sy - fy) * wy)) := by assumption
    have hfin : nearW ⟨fx, fy, wx, wy, far⟩ (sx, sy) wd = distW (wrap64 (sx - shW fx wx far)) (wrap64 (sy - shW fy wy far)) wd := by
      simp only [nearW, D0.out, D1.out, if_neg h, if_pos h2]
    have Hfin := Lib.hid hfin
    clear hfin h h2
    have hc0 := hb.cell (p := ⟨w.heap.size + 1, 0, none⟩) (by simp)
    have hc1 := hb.cell (p := ⟨w.heap.size + 1, 1, none⟩) (by simp)
    have hs := hb.size
    simp at hs
    have hbb : Below w.heap.size w w1 := (below_drewN (((Below.refl w.heap.size w).alloc (Nat.le_refl _) _).alloc (by simp) _) _).trans (hb.mono (by simp; omega))
    clear hb
    simp [go_sem] at hc0 hc1
    have hz : w.heap.size + 1 < w1.heap.size := by omega
    go_wp2_with fail
    go_quiet (fail)
    go_wp2_with fail
    go_ret
    refine ⟨ret_of (by rw [Hfin.out]; rfl), ?_⟩
    exact below_drewN (hbb.alloc (by omega) _) _
  · go_ret
    have h : ¬ wrap64 (wrap64 (wrap64 (sx - fx) * wx) + wrap64 (wrap64 (sy - fy) * wy)) < 0 := by
      have : 0 ≤ wrap64 (wrap64 (wrap64 (sx - fx) * wx) + wrap64 (wrap64 (sy - fy) * wy)) := by assumption
      omega
    have h2 : ¬ wrap64 (far * wrap64 (wrap64 (wx * wx) + wrap64 (wy * wy))) < wrap64 (wrap64 (wrap64 (sx - fx) * wx) + wrap64 (wrap64 (sy - fy) * wy)) := by
      have : wrap64 (wrap64 (wrap64 (sx - fx) * wx) + wrap64 (wrap64 (sy - fy) * wy)) ≤ wrap64 (far * wrap64 (wrap64 (wx * wx) + wrap64 (wy * wy))) := by assumption
      omega
    refine ⟨ret_of (by simp only [nearW, D0.out, D1.out, if_neg h, if_neg h2]; rfl), ?_⟩
    exact below_drewN (((Below.refl _ _).alloc (Nat.le_refl _) _).alloc (by simp) _) _
end Go.Proofs.YtnbdnnbeiohmgaaDoor
