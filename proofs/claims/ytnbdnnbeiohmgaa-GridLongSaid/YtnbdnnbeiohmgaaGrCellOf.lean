/- grid.CellOf. -/
import Derived.Test.YtnbdnnbeiohmgaaGrCheck
import Derived.Deep.RegionHeld3
namespace Go.Proofs.Ytnbdnnbeiohmgaa
open Go.RowKit Go.Shelf Go.Lib

def cellV (W H S : Int) (ld : List R3) (s : Int × Int) : (Int × Int) × Int :=
  if checkG W H S ld && nearS s then (if inB (s.1 / S) 0 (W - 1) && inB (s.2 / S) 0 (H - 1) then ((s.1 / S, s.2 / S), 0) else ((0, 0), 7)) else ((0, 0), 2)

theorem checkG_iff {W H S : Int} {ld : List R3} (h : checkG W H S ld = true) : (1 ≤ W ∧ W ≤ 256) ∧ (1 ≤ H ∧ H ≤ 256) ∧ (1 ≤ S ∧ S ≤ 50000) ∧ rightB W H ld = true := by
  simp only [checkG, Bool.and_eq_true] at h
  exact ⟨inB_iff h.1.1.1, inB_iff h.1.1.2, inB_iff h.1.2, h.2⟩

set_option maxRecDepth 100000 in
set_option maxHeartbeats 4000000 in
theorem cellOf_gr (W H S x y : Int) (vL : Value) (ld : List R3) (w : World) (h : Runs w vL ld) :
    Calls Try.prog 15 #[.agg #[.int .i64 W, .int .i64 H, .int .i64 S, vL], .agg #[.int .i64 x, .int .i64 y]] w fun e w' =>
      e = .returned (.tuple #[.agg #[.int .i64 (cellV W H S ld (x, y)).1.1, .int .i64 (cellV W H S ld (x, y)).1.2], .int .i64 (cellV W H S ld (x, y)).2]) ∧ Below w.heap.size w w' := by
  have b1 : Below w.heap.size w (((w.alloc (.cells #[.int .i64 W, .int .i64 H, .int .i64 S, vL] 24)).alloc (.cells #[.int .i64 x, .int .i64 y] 26)).alloc (.cells #[.int .i64 0, .int .i64 0] 39)) := (((Below.refl w.heap.size w).alloc (Nat.le_refl _) _).alloc (by simp) _).alloc (by simp; omega) _
  have hG := checkGrid_gr W H S vL ld (((w.alloc (.cells #[.int .i64 W, .int .i64 H, .int .i64 S, vL] 24)).alloc (.cells #[.int .i64 x, .int .i64 y] 26)).alloc (.cells #[.int .i64 0, .int .i64 0] 39)) (h.below b1)
  have HG := Lib.hid hG
  clear hG h
  go_enter Try.func15, Try.ntmps15
  go_wp2_with fail
  refine HG.out.mono ?_
  rintro e w1 ⟨rfl, hb1⟩
  have b2 := b1.trans (hb1.mono (by simp; omega))
  have c0 := hb1.cell (p := ⟨w.heap.size, 0, none⟩) (by simp; omega)
  have c1 := hb1.cell (p := ⟨w.heap.size, 1, none⟩) (by simp; omega)
  have c2 := hb1.cell (p := ⟨w.heap.size, 2, none⟩) (by simp; omega)
  have s0 := hb1.cell (p := ⟨w.heap.size + 1, 0, none⟩) (by simp)
  have s1 := hb1.cell (p := ⟨w.heap.size + 1, 1, none⟩) (by simp)
  have r0 := hb1.cell (p := ⟨w.heap.size + 1 + 1, 0, none⟩) (by simp)
  have r1 := hb1.cell (p := ⟨w.heap.size + 1 + 1, 1, none⟩) (by simp)
  have f0 := hb1.frozen (p := ⟨w.heap.size + 1 + 1, 0, none⟩) (by simp)
  have f1 := hb1.frozen (p := ⟨w.heap.size + 1 + 1, 1, none⟩) (by simp)
  have hz := hb1.size
  simp [go_sem] at c0 c1 c2 s0 s1 r0 r1 f0 f1 hz
  clear HG hb1 b1
  have n0 : w.heap.size < w1.heap.size := by omega
  have n1 : w.heap.size + 1 < w1.heap.size := by omega
  have n2 : w.heap.size + 1 + 1 < w1.heap.size := by omega
  cases k1 : checkG W H S ld with
  | false =>
    rw [argE_false]
    have hE : cellV W H S ld (x, y) = ((0, 0), 2) := by simp [cellV, k1]
    have HE := Lib.hid hE
    clear hE
    go_wp2_with fail
    refine bodyPost_ret (v := .tuple #[.agg #[.int .i64 (0), .int .i64 (0)], .int .i64 2]) (by simp [results, Try.results15, go_sem, r0, r1, f0, f1, n2]) rfl ⟨by rw [HE.out], ?_⟩
    exact ((b2.setCell (p := ⟨w.heap.size + 1 + 1, 0, none⟩) (by simp; omega) _).setCell (p := ⟨w.heap.size + 1 + 1, 1, none⟩) (by simp; omega) _)
  | true =>
    rw [argE_true]
    obtain ⟨hW, hH, hS, -⟩ := checkG_iff k1
    have hlit := fun w' (hw' : w'.heap.size = w1.heap.size) => Lst_lit encS_len w' w1.heap.size 1 hw' #[.int .i64 x, .int .i64 y] [(x, y)] 26 rfl rfl (by unfold maxLen; omega)
    have hN := near_gr (.slice (some ⟨w1.heap.size, 0, none⟩) 1 1) [(x, y)] _ (hlit w1 rfl) (by simp)
    have e1 : [(x, y)].all nearS = nearS (x, y) := by simp
    rw [e1] at hN
    have HN := Lib.hid hN
    clear hN hlit e1
    go_wp2_with fail
    refine HN.out.mono ?_
    rintro e w2 ⟨rfl, hb2⟩
    have b3 : Below w1.heap.size w1 w2 := ((Below.refl _ _).alloc (Nat.le_refl _) _).trans (hb2.mono (by simp))
    have c0 := (b3.cell (p := ⟨w.heap.size, 0, none⟩) n0).trans c0
    have c1 := (b3.cell (p := ⟨w.heap.size, 1, none⟩) n0).trans c1
    have c2 := (b3.cell (p := ⟨w.heap.size, 2, none⟩) n0).trans c2
    have s0 := (b3.cell (p := ⟨w.heap.size + 1, 0, none⟩) n1).trans s0
    have s1 := (b3.cell (p := ⟨w.heap.size + 1, 1, none⟩) n1).trans s1
    have r0 := (b3.cell (p := ⟨w.heap.size + 1 + 1, 0, none⟩) n2).trans r0
    have r1 := (b3.cell (p := ⟨w.heap.size + 1 + 1, 1, none⟩) n2).trans r1
    have f0 := (b3.frozen (p := ⟨w.heap.size + 1 + 1, 0, none⟩) n2).trans f0
    have f1 := (b3.frozen (p := ⟨w.heap.size + 1 + 1, 1, none⟩) n2).trans f1
    have b4 := b2.trans (b3.mono (by omega))
    have hz2 := b3.size
    have n0 : w.heap.size < w2.heap.size := by omega
    have n1 : w.heap.size + 1 < w2.heap.size := by omega
    have n2 : w.heap.size + 1 + 1 < w2.heap.size := by omega
    clear hb2 b3
    cases k2 : nearS (x, y) with
    | false =>
      have hE : cellV W H S ld (x, y) = ((0, 0), 2) := by simp [cellV, k1, k2]
      have HE := Lib.hid hE
      clear hE
      go_wp2_with fail
      refine bodyPost_ret (v := .tuple #[.agg #[.int .i64 (0), .int .i64 (0)], .int .i64 2]) (by simp [results, Try.results15, go_sem, r0, r1, f0, f1, n2]) rfl ⟨by rw [HE.out], ?_⟩
      exact ((b4.setCell (p := ⟨w.heap.size + 1 + 1, 0, none⟩) (by simp; omega) _).setCell (p := ⟨w.heap.size + 1 + 1, 1, none⟩) (by simp; omega) _)
    | true =>
      have k2' := k2
      simp only [nearS, Bool.and_eq_true] at k2'
      have bx := nearC_iff k2'.1
      have by' := nearC_iff k2'.2
      have H1 := Lib.hid (fun w => floor_gr x S w (by omega) hS)
      have H2 := Lib.hid (fun w => floor_gr y S w (by omega) hS)
      have hE : cellV W H S ld (x, y) = if inB (x / S) 0 (W - 1) && inB (y / S) 0 (H - 1) then ((x / S, y / S), 0) else ((0, 0), 7) := by simp only [cellV, k1, k2, Bool.and_self, if_true]
      have HE := Lib.hid hE
      clear hE k2'
      obtain ⟨q1, hq1⟩ : ∃ q, x / S = q := ⟨_, rfl⟩
      obtain ⟨q2, hq2⟩ : ∃ q, y / S = q := ⟨_, rfl⟩
      rw [hq1, hq2] at HE
      rw [hq1] at H1
      rw [hq2] at H2
      clear hq1 hq2
      go_wp2_with fail
      go_region_held3 (fun W' => W'.cell? ⟨w.heap.size, 2, none⟩ = some (.int .i64 S) ∧ W'.cell? ⟨w.heap.size + 1, 0, none⟩ = some (.int .i64 x) ∧ W'.cell? ⟨w.heap.size + 1, 1, none⟩ = some (.int .i64 y))
        (first | exact ⟨c2, s0, s1⟩ | exact ⟨(World.cell?_alloc_lt w2 _ ⟨w.heap.size, 2, none⟩ n0).trans c2, (World.cell?_alloc_lt w2 _ ⟨w.heap.size + 1, 0, none⟩ n1).trans s0, (World.cell?_alloc_lt w2 _ ⟨w.heap.size + 1, 1, none⟩ n1).trans s1⟩ | go_keep)
        (first | (go_at_call 61; first | ((with_reducible refine (H1.out _).mono ?_); rintro e w' ⟨rfl, rfl⟩) | ((with_reducible refine (H2.out _).mono ?_); rintro e w' ⟨rfl, rfl⟩)))
      all_goals
        have b5 : Below w.heap.size w (w2.alloc (.cells #[.int .i64 q1, .int .i64 q2] 39)).drew := belowDrew (b4.alloc (by omega) _)
        rename_i hHeld
        clear hHeld c2 s0 s1
        have c0 : (w2.alloc (.cells #[.int .i64 q1, .int .i64 q2] 39)).drew.cell? ⟨w.heap.size, 0, none⟩ = some (.int .i64 W) := (World.cell?_alloc_lt w2 _ ⟨w.heap.size, 0, none⟩ n0).trans c0
        have c1 : (w2.alloc (.cells #[.int .i64 q1, .int .i64 q2] 39)).drew.cell? ⟨w.heap.size, 1, none⟩ = some (.int .i64 H) := (World.cell?_alloc_lt w2 _ ⟨w.heap.size, 1, none⟩ n0).trans c1
        have r0 : (w2.alloc (.cells #[.int .i64 q1, .int .i64 q2] 39)).drew.cell? ⟨w.heap.size + 1 + 1, 0, none⟩ = some (.int .i64 0) := (World.cell?_alloc_lt w2 _ ⟨w.heap.size + 1 + 1, 0, none⟩ n2).trans r0
        have r1 : (w2.alloc (.cells #[.int .i64 q1, .int .i64 q2] 39)).drew.cell? ⟨w.heap.size + 1 + 1, 1, none⟩ = some (.int .i64 0) := (World.cell?_alloc_lt w2 _ ⟨w.heap.size + 1 + 1, 1, none⟩ n2).trans r1
        have f0 : (w2.alloc (.cells #[.int .i64 q1, .int .i64 q2] 39)).drew.frozen? ⟨w.heap.size + 1 + 1, 0, none⟩ = false := (frozenAllocLt w2 _ ⟨w.heap.size + 1 + 1, 0, none⟩ n2).trans f0
        have f1 : (w2.alloc (.cells #[.int .i64 q1, .int .i64 q2] 39)).drew.frozen? ⟨w.heap.size + 1 + 1, 1, none⟩ = false := (frozenAllocLt w2 _ ⟨w.heap.size + 1 + 1, 1, none⟩ n2).trans f1
        have t0 : (w2.alloc (.cells #[.int .i64 q1, .int .i64 q2] 39)).drew.cell? ⟨w2.heap.size, 0, none⟩ = some (.int .i64 q1) := by simp [go_sem]
        have t1 : (w2.alloc (.cells #[.int .i64 q1, .int .i64 q2] 39)).drew.cell? ⟨w2.heap.size, 1, none⟩ = some (.int .i64 q2) := by simp [go_sem]
        have hz3 : (w2.alloc (.cells #[.int .i64 q1, .int .i64 q2] 39)).drew.heap.size = w2.heap.size + 1 := by simp [go_sem]
        obtain ⟨w3, hw3⟩ : ∃ w3, (w2.alloc (.cells #[.int .i64 q1, .int .i64 q2] 39)).drew = w3 := ⟨_, rfl⟩
        rw [hw3] at b5 c0 c1 r0 r1 f0 f1 t0 t1 hz3 ⊢
        clear hw3
        have n2 : w.heap.size + 1 + 1 < w3.heap.size := by omega
        have e3 : wrap64 (W - 1) = W - 1 := wrapId _ (by omega) (by omega)
        have e4 : wrap64 (H - 1) = H - 1 := wrapId _ (by omega) (by omega)
        go_wp2_with fail
        refine (within_gr _ _ _ _).mono ?_
        rintro e w' ⟨rfl, rfl⟩
        cases k3 : inB q1 0 (W - 1) with
        | false =>
          have HE := Lib.hid (show cellV W H S ld (x, y) = ((0, 0), 7) from HE.out.trans (by simp [k3]))
          go_wp2_with fail
          refine bodyPost_ret (v := .tuple #[.agg #[.int .i64 0, .int .i64 0], .int .i64 7]) (by simp [results, Try.results15, go_sem, r0, r1, f0, f1, n2]) rfl ⟨by rw [HE.out], ?_⟩
          exact ((b5.setCell (p := ⟨w.heap.size + 1 + 1, 0, none⟩) (by simp; omega) _).setCell (p := ⟨w.heap.size + 1 + 1, 1, none⟩) (by simp; omega) _)
        | true =>
          go_wp2_with fail
          refine (within_gr _ _ _ _).mono ?_
          rintro e w' ⟨rfl, rfl⟩
          cases k4 : inB q2 0 (H - 1) with
          | false =>
            have HE := Lib.hid (show cellV W H S ld (x, y) = ((0, 0), 7) from HE.out.trans (by simp [k3, k4]))
            go_wp2_with fail
            refine bodyPost_ret (v := .tuple #[.agg #[.int .i64 0, .int .i64 0], .int .i64 7]) (by simp [results, Try.results15, go_sem, r0, r1, f0, f1, n2]) rfl ⟨by rw [HE.out], ?_⟩
            exact ((b5.setCell (p := ⟨w.heap.size + 1 + 1, 0, none⟩) (by simp; omega) _).setCell (p := ⟨w.heap.size + 1 + 1, 1, none⟩) (by simp; omega) _)
          | true =>
            have HE := Lib.hid (show cellV W H S ld (x, y) = ((q1, q2), 0) from HE.out.trans (by simp [k3, k4]))
            go_wp2_with fail
            refine bodyPost_ret (v := .tuple #[.agg #[.int .i64 q1, .int .i64 q2], .int .i64 0]) (by simp [results, Try.results15, go_sem, r0, r1, f0, f1, n2]) rfl ⟨by rw [HE.out], ?_⟩
            exact ((b5.setCell (p := ⟨w.heap.size + 1 + 1, 0, none⟩) (by simp; omega) _).setCell (p := ⟨w.heap.size + 1 + 1, 1, none⟩) (by simp; omega) _)

end Go.Proofs.Ytnbdnnbeiohmgaa
