/- Parallel, at the box of the chapter's first example. -/
import Derived.Test.YtnbdnnbeiohmgaaDoorTkRow
namespace Go.Proofs.YtnbdnnbeiohmgaaDoor
open Go.RowKit

theorem below_of_grown {W W' : World} {row : Option Nat} {n : Nat} (h : W.grownBy W' row) (hr : ∀ g, row = some g → n ≤ g) (hn : n ≤ W.heap.size) : Below n W W' :=
  ⟨h.os, h.tape, h.output, h.size, fun k hk => h.block k (by omega) (fun hc => by have := hr k hc.symm; omega)⟩
theorem cell_alloc_k {W : World} {a : Addr} {v : Value} (o : Obj) (h : W.cell? a = some v) : (W.alloc o).cell? a = some v := by
  obtain ⟨o', ho, hc⟩ : ∃ o' : Obj, W.heap[a.block]? = some o' ∧ True := by
    cases hq : W.heap[a.block]? with
    | none => simp [World.cell?, hq] at h
    | some o' => exact ⟨o', rfl, trivial⟩
  exact (World.cell?_alloc_lt W o a (Array.getElem?_eq_some_iff.1 ho).1).trans h
/-- all ways through a region come to one end -/
theorem wp_one' {P : Program} {c : Code} {Q : Exit → Act → World → Prop} {a : Act} {w : World} {A : Act} {W : World} (h1 : c.wp P (fun e a' w' => e = Exit.normal ∧ a' = A ∧ w' = W) a w) (h2 : Q .normal A W) : c.wp P Q a w :=
  Code.wp_mono (fun _ _ _ ⟨he, ha, hw⟩ => by subst he; subst ha; subst hw; exact h2) h1

set_option maxRecDepth 100000 in
set_option maxHeartbeats 16000000 in
theorem parallel_08 (w : World) :
    Calls Tryd.prog 16 #[.agg #[.int .i64 0, .int .i64 0], .agg #[.int .i64 10, .int .i64 9], .int .i64 4, .int .i64 0] w fun e w' =>
      (∃ v, e = .returned (.tuple #[v, .int .i64 0]) ∧ Spots w' v par08) ∧ Below w.heap.size w w' := by
  go_enter Tryd.func16, Tryd.ntmps16
  go_wp2_with fail
  refine (valid_tk _ [(0, 0), (10, 9)] _ (Spots_two _ _ (by simp) _ _ _ _ _)).mono ?_
  rintro e w1 ⟨rfl, hb⟩
  rw [show [((0 : Int), (0 : Int)), (10, 9)].all okS = true from by decide +kernel]
  have c0 := hb.cell (p := ⟨w.heap.size, 0, none⟩) (by simp <;> omega)
  have c1 := hb.cell (p := ⟨w.heap.size, 1, none⟩) (by simp <;> omega)
  have c2 := hb.cell (p := ⟨w.heap.size + 1, 0, none⟩) (by simp <;> omega)
  have c3 := hb.cell (p := ⟨w.heap.size + 1, 1, none⟩) (by simp <;> omega)
  have f0 := hb.frozen (p := ⟨w.heap.size, 0, none⟩) (by simp <;> omega)
  have f1 := hb.frozen (p := ⟨w.heap.size, 1, none⟩) (by simp <;> omega)
  have f2 := hb.frozen (p := ⟨w.heap.size + 1, 0, none⟩) (by simp <;> omega)
  have f3 := hb.frozen (p := ⟨w.heap.size + 1, 1, none⟩) (by simp <;> omega)
  have hz := hb.size
  simp [go_sem] at c0 c1 c2 c3 f0 f1 f2 f3 hz
  have hbb : Below w.heap.size w w1 := ((((Below.refl w.heap.size w).alloc (Nat.le_refl _) (.cells #[.int .i64 0, .int .i64 0] 23)).alloc (by simp <;> omega) (.cells #[.int .i64 10, .int .i64 9] 23)).alloc (by simp <;> omega) _).trans (hb.mono (by simp <;> omega))
  clear hb
  go_wp2_with fail
  refine (within_tk _ _ _ _).mono ?_
  rintro e w' ⟨rfl, rfl⟩
  rw [show withinB 4 1 1048576 = true from rfl]
  go_wp2_with fail
  refine (within_tk _ _ _ _).mono ?_
  rintro e w' ⟨rfl, rfl⟩
  rw [show withinB 0 0 1 = true from rfl]
  go_wp2_with fail
  refine (turned_0 _).mono ?_
  rintro e w' ⟨rfl, rfl⟩
  go_wp2_with fail
  go_region_held3 (fun W' => W'.cell? ⟨w.heap.size, 0, none⟩ = some (.int .i64 0) ∧ W'.cell? ⟨w.heap.size, 1, none⟩ = some (.int .i64 0) ∧ W'.cell? ⟨w.heap.size + 1, 0, none⟩ = some (.int .i64 10) ∧ W'.cell? ⟨w.heap.size + 1, 1, none⟩ = some (.int .i64 9))
    (first | exact ⟨c0, c1, c2, c3⟩ | exact ⟨d0, d1, d2, d3⟩ | exact ⟨e0, e1, e2, e3⟩ | (simp [go_sem, e0, e1, e2, e3]; done))
    (first | (go_at_call 57; (with_reducible refine (same_tk 0 0 _).mono ?_); rintro e wa ⟨rfl, hba⟩; have hza : w1.heap.size ≤ wa.heap.size := hba.size; have d0 := (hba.cell (p := ⟨w.heap.size, 0, none⟩) (by simp <;> omega)).trans c0; have d1 := (hba.cell (p := ⟨w.heap.size, 1, none⟩) (by simp <;> omega)).trans c1; have d2 := (hba.cell (p := ⟨w.heap.size + 1, 0, none⟩) (by simp <;> omega)).trans c2; have d3 := (hba.cell (p := ⟨w.heap.size + 1, 1, none⟩) (by simp <;> omega)).trans c3; have g0 := (hba.frozen (p := ⟨w.heap.size, 0, none⟩) (by simp <;> omega)).trans f0; have g1 := (hba.frozen (p := ⟨w.heap.size, 1, none⟩) (by simp <;> omega)).trans f1; have g2 := (hba.frozen (p := ⟨w.heap.size + 1, 0, none⟩) (by simp <;> omega)).trans f2; have g3 := (hba.frozen (p := ⟨w.heap.size + 1, 1, none⟩) (by simp <;> omega)).trans f3; skip) | (go_at_call 57; (with_reducible refine (same_tk 10 9 _).mono ?_); rintro e wb ⟨rfl, hbd⟩; have hzb : wa.heap.size ≤ wb.heap.size := hbd.size; have e0 := (hbd.cell (p := ⟨w.heap.size, 0, none⟩) (by simp <;> omega)).trans d0; have e1 := (hbd.cell (p := ⟨w.heap.size, 1, none⟩) (by simp <;> omega)).trans d1; have e2 := (hbd.cell (p := ⟨w.heap.size + 1, 0, none⟩) (by simp <;> omega)).trans d2; have e3 := (hbd.cell (p := ⟨w.heap.size + 1, 1, none⟩) (by simp <;> omega)).trans d3; have k0 := (hbd.frozen (p := ⟨w.heap.size, 0, none⟩) (by simp <;> omega)).trans g0; have k1 := (hbd.frozen (p := ⟨w.heap.size, 1, none⟩) (by simp <;> omega)).trans g1; have k2 := (hbd.frozen (p := ⟨w.heap.size + 1, 0, none⟩) (by simp <;> omega)).trans g2; have k3 := (hbd.frozen (p := ⟨w.heap.size + 1, 1, none⟩) (by simp <;> omega)).trans g3; skip))
  rename_i hHeld
  clear hHeld
  have k4 : ∃ W4, ((((wb.setCell ⟨w.heap.size, 0, none⟩ (.int .i64 0)).setCell ⟨w.heap.size, 1, none⟩ (.int .i64 0)).setCell ⟨w.heap.size + 1, 0, none⟩ (.int .i64 10)).setCell ⟨w.heap.size + 1, 1, none⟩ (.int .i64 9)) = W4 := ⟨_, rfl⟩
  obtain ⟨W4, hW4⟩ := k4
  rw [hW4]
  have q0 : W4.cell? ⟨w.heap.size, 0, none⟩ = some (.int .i64 0) := by rw [← hW4]; simp [go_sem, e0, e1, e2, e3]
  have q1 : W4.cell? ⟨w.heap.size, 1, none⟩ = some (.int .i64 0) := by rw [← hW4]; simp [go_sem, e0, e1, e2, e3]
  have q2 : W4.cell? ⟨w.heap.size + 1, 0, none⟩ = some (.int .i64 10) := by rw [← hW4]; simp [go_sem, e0, e1, e2, e3]
  have q3 : W4.cell? ⟨w.heap.size + 1, 1, none⟩ = some (.int .i64 9) := by rw [← hW4]; simp [go_sem, e0, e1, e2, e3]
  have qb : Below w.heap.size w W4 := by
    rw [← hW4]
    have h1 : Below w.heap.size w1 wa := ⟨hba.os, hba.tape, hba.output, hba.size, fun k hk => hba.block k (Nat.lt_of_lt_of_le hk hbb.size)⟩
    exact (((((hbb.trans h1).trans (hbd.mono (by omega))).setCell (p := ⟨w.heap.size, 0, none⟩) (Nat.le_refl _) _).setCell (p := ⟨w.heap.size, 1, none⟩) (Nat.le_refl _) _).setCell (p := ⟨w.heap.size + 1, 0, none⟩) (by simp) _).setCell (p := ⟨w.heap.size + 1, 1, none⟩) (by simp) _
  have qz : w.heap.size + 1 + 1 ≤ W4.heap.size := by rw [← hW4]; simp [World.setCell]; omega
  clear hW4 c0 c1 c2 c3 f0 f1 f2 f3 d0 d1 d2 d3 g0 g1 g2 g3 e0 e1 e2 e3 k0 k1 k2 k3 hba hbd hza hzb hbb hz
  go_wp2_with fail
  obtain ⟨W5, hW5⟩ : ∃ W5, W4.alloc (.cells #[.int .i64 0, .int .i64 10] 58) = W5 := ⟨_, rfl⟩
  rw [hW5]
  have r0 : W5.cell? ⟨w.heap.size, 1, none⟩ = some (.int .i64 0) := by rw [← hW5]; exact (World.cell?_alloc_lt W4 _ ⟨w.heap.size, 1, none⟩ (by simp; omega)).trans q1
  have r1 : W5.cell? ⟨w.heap.size + 1, 1, none⟩ = some (.int .i64 9) := by rw [← hW5]; exact (World.cell?_alloc_lt W4 _ ⟨w.heap.size + 1, 1, none⟩ (by simp; omega)).trans q3
  have r2 : W5.cell? ⟨W4.heap.size, 0, none⟩ = some (.int .i64 0) := by rw [← hW5]; simp [go_sem]
  have r3 : W5.cell? ⟨W4.heap.size, 1, none⟩ = some (.int .i64 10) := by rw [← hW5]; simp [go_sem]
  have rb : Below w.heap.size w W5 := by rw [← hW5]; exact qb.alloc (by omega) _
  have rz : W5.heap.size = W4.heap.size + 1 := by rw [← hW5]; simp
  have RZ := Lib.hid rz
  have rz' : W4.heap.size + 1 ≤ W5.heap.size := by omega
  clear hW5 q0 q1 q2 q3 qb rz
  obtain ⟨i0, hi, hz0, hz1, hz2⟩ := info_parts infoSpot
  go_loopw [12, 72] (fun v i wr => ((i = .int .i64 0 ∧ wr.ownsRow (W4.heap.size + 1) 23 2 v 0 (flatS (par08.take 0))) ∨ (i = .int .i64 1 ∧ wr.ownsRow (W4.heap.size + 1) 23 2 v 2 (flatS (par08.take 2))) ∨
      (i = .int .i64 2 ∧ wr.ownsRow (W4.heap.size + 1) 23 2 v 4 (flatS (par08.take 4))) ∨ (i = .int .i64 3 ∧ wr.ownsRow (W4.heap.size + 1) 23 2 v 6 (flatS (par08.take 6)))) ∧ Below (W4.heap.size + 1) W5 wr)
    (fun _ i _ => 3 - (intOf i).toNat)
  case atStart => exact ⟨.inl ⟨rfl, World.ownsRow_nil _ _ _ _⟩, Below.refl _ _⟩
  case round =>
    obtain ⟨hrel, hb⟩ := hrel
    have s0 := (hb.cell (p := ⟨w.heap.size, 1, none⟩) (by simp; omega)).trans r0
    have s1 := (hb.cell (p := ⟨w.heap.size + 1, 1, none⟩) (by simp; omega)).trans r1
    have c0 := (hb.cell (p := ⟨W4.heap.size, 0, none⟩) (by simp)).trans r2
    have c1 := (hb.cell (p := ⟨W4.heap.size, 1, none⟩) (by simp)).trans r3
    have hs := hb.size
    have hlt : W4.heap.size < wr.heap.size := by omega
    clear r0 r1 r2 r3
    have y1 : IntKind.i64.wrap (1 : Int) = 1 := by decide
    have y0 : IntKind.i64.wrap (0 : Int) = 0 := by decide
    have hne : ∀ g, u12.ownBlock = some g → W4.heap.size + 1 ≤ g := fun g hg => by
      rcases hrel with ⟨-, hown⟩ | ⟨-, hown⟩ | ⟨-, hown⟩ | ⟨-, hown⟩ <;> exact (hown.lt g hg).1
    have hnb : some W4.heap.size ≠ u12.ownBlock := fun hc => by have := hne _ hc.symm; omega
    rcases hrel with ⟨rfl, hown⟩ | ⟨rfl, hown⟩ | ⟨rfl, hown⟩ | ⟨rfl, hown⟩
    · -- round 0
      go_wp2_with fail
      go_region_held3 (fun W' => W'.cell? ⟨W4.heap.size, 0, none⟩ = some (.int .i64 0) ∧ W'.cell? ⟨W4.heap.size, 1, none⟩ = some (.int .i64 10))
          (first | exact ⟨c0, c1⟩ | exact ⟨d0, d1⟩ | exact ⟨e0, e1⟩ | exact ⟨cell_alloc_k _ e0, cell_alloc_k _ e1⟩ | exact ⟨(hgrow6.cell_far _ (by simp; omega) hnb).trans (cell_alloc_k _ e0), (hgrow6.cell_far _ (by simp; omega) hnb).trans (cell_alloc_k _ e1)⟩)
          (first | (go_at_call 57; (with_reducible refine (same_tk 0 2 _).mono ?_); rintro e wa ⟨rfl, hba⟩; have d0 := (hba.cell (p := ⟨W4.heap.size, 0, none⟩) (show W4.heap.size < wr.heap.size by omega)).trans c0; have d1 := (hba.cell (p := ⟨W4.heap.size, 1, none⟩) (show W4.heap.size < wr.heap.size by omega)).trans c1; have hza : wr.heap.size ≤ wa.heap.size := hba.size; skip) | (go_at_call 57; (with_reducible refine (same_tk 10 2 _).mono ?_); rintro e wb ⟨rfl, hbd⟩; have e0 := (hbd.cell (p := ⟨W4.heap.size, 0, none⟩) (show W4.heap.size < wa.heap.size by omega)).trans d0; have e1 := (hbd.cell (p := ⟨W4.heap.size, 1, none⟩) (show W4.heap.size < wa.heap.size by omega)).trans d1; have hzb : wa.heap.size ≤ wb.heap.size := hbd.size; have hq := (ownsRow_below (ownsRow_below hown.drew hba) hbd); skip) | (refine step_append_lies _ (by rfl) _ _ _ (by rfl) (W4.heap.size + 1) 23 i0 _ 2 16 Tryd.underlying27 hi hz0 hz1 hz2 rfl (by omega) u12 0 (flatS (par08.take 0)) (by rfl) (hq.alloc _) ⟨wb.heap.size, 0, none⟩ 2 2 [.int .i64 0, .int .i64 2, .int .i64 10, .int .i64 2] (by rfl) (by rfl) (World.news_of_block (cs := #[.int .i64 0, .int .i64 2, .int .i64 10, .int .i64 2]) (t := 23) (fr := (0, 0)) (heap_alloc_new wb _)) (by simp [Value.oneCell']) (by omega) (by simp [maxLen]) (by omega) (by simp; omega) (wb.heap.size + 1) (by simp) ?_; intro g cap w6 hown6 hgrow6 hat6 hlt6))
      have hb6 : Below (W4.heap.size + 1) W5 w6 := by
        have hb1 : Below (W4.heap.size + 1) W5 wa := hb.trans (Below.mono (show Below wr.heap.size wr wa from ⟨hba.os, hba.tape, hba.output, hba.size, hba.block⟩) (by omega))
        have hb2 := hb1.trans (hbd.mono (by omega))
        exact (hb2.alloc (by omega) _).trans (below_of_grown hgrow6 hne (by simp; omega))
      have hown7 : w6.ownsRow (W4.heap.size + 1) 23 2 (.slice (some ⟨g, 0, none⟩) (0 + 2) cap) 2 (flatS (par08.take 2)) := hown6
      go_wp2_with fail
      go_roundw
      case rel => exact ⟨.inr (.inl ⟨rfl, hown7⟩), hb6⟩
      case measure => simp [intOf]
    · -- round 1
      go_wp2_with fail
      go_region_held3 (fun W' => W'.cell? ⟨W4.heap.size, 0, none⟩ = some (.int .i64 0) ∧ W'.cell? ⟨W4.heap.size, 1, none⟩ = some (.int .i64 10))
          (first | exact ⟨c0, c1⟩ | exact ⟨d0, d1⟩ | exact ⟨e0, e1⟩ | exact ⟨cell_alloc_k _ e0, cell_alloc_k _ e1⟩ | exact ⟨(hgrow6.cell_far _ (by simp; omega) hnb).trans (cell_alloc_k _ e0), (hgrow6.cell_far _ (by simp; omega) hnb).trans (cell_alloc_k _ e1)⟩)
          (first | (go_at_call 57; (with_reducible refine (same_tk 10 6 _).mono ?_); rintro e wa ⟨rfl, hba⟩; have d0 := (hba.cell (p := ⟨W4.heap.size, 0, none⟩) (show W4.heap.size < wr.heap.size by omega)).trans c0; have d1 := (hba.cell (p := ⟨W4.heap.size, 1, none⟩) (show W4.heap.size < wr.heap.size by omega)).trans c1; have hza : wr.heap.size ≤ wa.heap.size := hba.size; skip) | (go_at_call 57; (with_reducible refine (same_tk 0 6 _).mono ?_); rintro e wb ⟨rfl, hbd⟩; have e0 := (hbd.cell (p := ⟨W4.heap.size, 0, none⟩) (show W4.heap.size < wa.heap.size by omega)).trans d0; have e1 := (hbd.cell (p := ⟨W4.heap.size, 1, none⟩) (show W4.heap.size < wa.heap.size by omega)).trans d1; have hzb : wa.heap.size ≤ wb.heap.size := hbd.size; have hq := (ownsRow_below (ownsRow_below hown.drew hba) hbd); skip) | (refine step_append_lies _ (by rfl) _ _ _ (by rfl) (W4.heap.size + 1) 23 i0 _ 2 16 Tryd.underlying27 hi hz0 hz1 hz2 rfl (by omega) u12 2 (flatS (par08.take 2)) (by rfl) (hq.alloc _) ⟨wb.heap.size, 0, none⟩ 2 2 [.int .i64 10, .int .i64 6, .int .i64 0, .int .i64 6] (by rfl) (by rfl) (World.news_of_block (cs := #[.int .i64 10, .int .i64 6, .int .i64 0, .int .i64 6]) (t := 23) (fr := (0, 0)) (heap_alloc_new wb _)) (by simp [Value.oneCell']) (by omega) (by simp [maxLen]) (by omega) (by simp; omega) (wb.heap.size + 1) (by simp) ?_; intro g cap w6 hown6 hgrow6 hat6 hlt6))
      have hb6 : Below (W4.heap.size + 1) W5 w6 := by
        have hb1 : Below (W4.heap.size + 1) W5 wa := hb.trans (Below.mono (show Below wr.heap.size wr wa from ⟨hba.os, hba.tape, hba.output, hba.size, hba.block⟩) (by omega))
        have hb2 := hb1.trans (hbd.mono (by omega))
        exact (hb2.alloc (by omega) _).trans (below_of_grown hgrow6 hne (by simp; omega))
      have hown7 : w6.ownsRow (W4.heap.size + 1) 23 2 (.slice (some ⟨g, 0, none⟩) (2 + 2) cap) 4 (flatS (par08.take 4)) := hown6
      go_wp2_with fail
      go_roundw
      case rel => exact ⟨.inr (.inr (.inl ⟨rfl, hown7⟩)), hb6⟩
      case measure => simp [intOf]
    · -- round 2
      go_wp2_with fail
      go_region_held3 (fun W' => W'.cell? ⟨W4.heap.size, 0, none⟩ = some (.int .i64 0) ∧ W'.cell? ⟨W4.heap.size, 1, none⟩ = some (.int .i64 10))
          (first | exact ⟨c0, c1⟩ | exact ⟨d0, d1⟩ | exact ⟨e0, e1⟩ | exact ⟨cell_alloc_k _ e0, cell_alloc_k _ e1⟩ | exact ⟨(hgrow6.cell_far _ (by simp; omega) hnb).trans (cell_alloc_k _ e0), (hgrow6.cell_far _ (by simp; omega) hnb).trans (cell_alloc_k _ e1)⟩)
          (first | (go_at_call 57; (with_reducible refine (same_tk 0 9 _).mono ?_); rintro e wa ⟨rfl, hba⟩; have d0 := (hba.cell (p := ⟨W4.heap.size, 0, none⟩) (show W4.heap.size < wr.heap.size by omega)).trans c0; have d1 := (hba.cell (p := ⟨W4.heap.size, 1, none⟩) (show W4.heap.size < wr.heap.size by omega)).trans c1; have hza : wr.heap.size ≤ wa.heap.size := hba.size; skip) | (go_at_call 57; (with_reducible refine (same_tk 10 9 _).mono ?_); rintro e wb ⟨rfl, hbd⟩; have e0 := (hbd.cell (p := ⟨W4.heap.size, 0, none⟩) (show W4.heap.size < wa.heap.size by omega)).trans d0; have e1 := (hbd.cell (p := ⟨W4.heap.size, 1, none⟩) (show W4.heap.size < wa.heap.size by omega)).trans d1; have hzb : wa.heap.size ≤ wb.heap.size := hbd.size; have hq := (ownsRow_below (ownsRow_below hown.drew hba) hbd); skip) | (refine step_append_lies _ (by rfl) _ _ _ (by rfl) (W4.heap.size + 1) 23 i0 _ 2 16 Tryd.underlying27 hi hz0 hz1 hz2 rfl (by omega) u12 4 (flatS (par08.take 4)) (by rfl) (hq.alloc _) ⟨wb.heap.size, 0, none⟩ 2 2 [.int .i64 0, .int .i64 9, .int .i64 10, .int .i64 9] (by rfl) (by rfl) (World.news_of_block (cs := #[.int .i64 0, .int .i64 9, .int .i64 10, .int .i64 9]) (t := 23) (fr := (0, 0)) (heap_alloc_new wb _)) (by simp [Value.oneCell']) (by omega) (by simp [maxLen]) (by omega) (by simp; omega) (wb.heap.size + 1) (by simp) ?_; intro g cap w6 hown6 hgrow6 hat6 hlt6))
      have hb6 : Below (W4.heap.size + 1) W5 w6 := by
        have hb1 : Below (W4.heap.size + 1) W5 wa := hb.trans (Below.mono (show Below wr.heap.size wr wa from ⟨hba.os, hba.tape, hba.output, hba.size, hba.block⟩) (by omega))
        have hb2 := hb1.trans (hbd.mono (by omega))
        exact (hb2.alloc (by omega) _).trans (below_of_grown hgrow6 hne (by simp; omega))
      have hown7 : w6.ownsRow (W4.heap.size + 1) 23 2 (.slice (some ⟨g, 0, none⟩) (4 + 2) cap) 6 (flatS (par08.take 6)) := hown6
      go_wp2_with fail
      go_roundw
      case rel => exact ⟨.inr (.inr (.inr ⟨rfl, hown7⟩)), hb6⟩
      case measure => simp [intOf]
    · -- behind the last round
      go_wp2_with fail
      refine bodyPost_ret (v := .tuple #[u12, .int .i64 0]) (by simp [results, Tryd.results16, go_sem]) rfl ⟨⟨_, rfl, Spots_of_own hown (by decide)⟩, rb.trans (hb.mono (by omega))⟩
end Go.Proofs.YtnbdnnbeiohmgaaDoor
