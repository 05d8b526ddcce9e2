/- Length, at the track of the chapter's first example. -/
import Derived.Test.YtnbdnnbeiohmgaaDoorTkCheck
namespace Go.Proofs.YtnbdnnbeiohmgaaDoor
open Go.RowKit Go.Shelf
open Go.Proofs.Rings (Leg sg)
attribute [local go_sem] Oper.semAt_some

theorem quiet_left {P : Program} {f : FuncId} {args : Array Value} {w : World} {n : Nat} {v : Value}
    (h : Calls P f args (w.drewN n) fun e w' => e = .returned v ∧ w.drewN n = w') : Calls P f args (w.drewN n) fun e w' => e = .returned v ∧ ∃ m, w' = w.drewN m :=
  h.mono fun _ _ ⟨he, hm⟩ => ⟨he, n, hm.symm⟩

theorem mul64_24 (w : World) : Calls Tryd.prog 59 #[.int .u64 2, .int .u64 4] w fun e w' => e = .returned (.tuple #[.int .u64 0, .int .u64 8]) ∧ w = w' := by
  go_enter Tryd.func59, Tryd.ntmps59
  go_wp2
  go_ret2
  exact ⟨rfl, rfl⟩
theorem mul64_22 (w : World) : Calls Tryd.prog 59 #[.int .u64 2, .int .u64 2] w fun e w' => e = .returned (.tuple #[.int .u64 0, .int .u64 4]) ∧ w = w' := by
  go_enter Tryd.func59, Tryd.ntmps59
  go_wp2
  go_ret2
  exact ⟨rfl, rfl⟩
theorem mul64_33 (w : World) : Calls Tryd.prog 59 #[.int .u64 3, .int .u64 3] w fun e w' => e = .returned (.tuple #[.int .u64 0, .int .u64 9]) ∧ w = w' := by
  go_enter Tryd.func59, Tryd.ntmps59
  go_wp2
  go_ret2
  exact ⟨rfl, rfl⟩

theorem rooted_2 (w : World) : Calls Tryd.prog 38 #[.int .i64 2] w fun e w' => e = .returned (.int .i64 2) ∧ w = w' := by
  go_enter Tryd.func38, Tryd.ntmps38
  go_wp2_with fail
  refine (mul64_24 _).mono ?_
  rintro e w' ⟨rfl, rfl⟩
  go_wp2_with fail
  go_loop [5, 6] (fun a b => (a = .int .i64 0 ∧ b = .int .i64 5) ∨ (a = .int .i64 2 ∧ b = .int .i64 5) ∨ (a = .int .i64 2 ∧ b = .int .i64 3)) (fun a b => (intOf b - intOf a).toNat)
  case atStart => exact .inl ⟨rfl, rfl⟩
  case round =>
    rcases hrel with ⟨rfl, rfl⟩ | ⟨rfl, rfl⟩ | ⟨rfl, rfl⟩
    · go_wp2_with fail
      refine (mul64_22 _).mono ?_
      rintro e w' ⟨rfl, rfl⟩
      go_wp2_with fail
      go_round
      case rel => exact .inr (.inl ⟨rfl, rfl⟩)
      case measure => simp [intOf]
    · go_wp2_with fail
      refine (mul64_33 _).mono ?_
      rintro e w' ⟨rfl, rfl⟩
      go_wp2_with fail
      go_round
      case rel => exact .inr (.inr ⟨rfl, rfl⟩)
      case measure => simp [intOf]
    · go_wp2_with fail
      go_ret
      exact ⟨rfl, rfl⟩

def legs08 : List (Int × Int) := [(0, 0), (3, 0), (5, 2)]
theorem check08 : checkB legs08 = true := by decide +kernel
def sumS (pre : List Leg) : Int := pre.foldl (fun s x => if (x.wx == 0 || x.wy == 0) then wrap64 (s + x.far) else s) 0
def sumD (pre : List Leg) : Int := pre.foldl (fun s x => if (x.wx == 0 || x.wy == 0) then s else wrap64 (s + x.far)) 0
theorem sums08 : sumS (legsW legs08) = 3 ∧ sumD (legsW legs08) = 2 := by decide +kernel

set_option maxRecDepth 100000 in
set_option maxHeartbeats 4000000 in
theorem length_08 (v : Value) (w : World) (h : Spots w v legs08) :
    Calls Tryd.prog 20 #[v] w fun e w' => e = .returned (.tuple #[.int .i64 5, .int .i64 6, .int .i64 0]) ∧ Below w.heap.size w w' := by
  refine (callsIn_wide (n := 5)).1 ?_
  have hchk := fun (w' : World) (hb : Below w.heap.size w w') => check_tk v legs08 w' (h.below hb)
  rw [checkV_true check08] at hchk
  obtain ⟨A, c, e, h1, h2, h3⟩ := h
  have e3 : legs08.length = 3 := rfl
  rw [e3] at e h1
  subst e
  obtain ⟨b, off, rfl, hbl, hc⟩ := h3 (by decide)
  unfold maxLen at h2
  have HV := Lib.hid hchk
  have hcells : ∀ k, k ≤ 2 → w.cell? ⟨b, off + k * 2, none⟩ = some (.int .i64 (legs08.getD k default).1) ∧ w.cell? ⟨b, off + k * 2 + 1, none⟩ = some (.int .i64 (legs08.getD k default).2) := fun k hk =>
    hc k _ (by simp [List.getD, show k < legs08.length by rw [e3]; omega])
  have HCE := Lib.hid hcells
  have hup := legsW_upto legs08 2 rfl
  have HU := Lib.hid hup
  clear hchk h3 hc hcells e3 hup
  refine callsIn_of_wp_marks Tryd.func20 rfl trivial ?_ rfl
  simp only [Tryd.ntmps20, List.size_toArray, List.length_cons, List.length_nil, Nat.reduceAdd, Nat.reduceSub, Array.replicate_succ, Array.replicate_zero, List.push_toArray, List.append_toArray, List.nil_append, List.cons_append]
  refine wpIn_wide.2 ?_
  go_wp2_with fail
  refine (HV.out _ (Below.refl _ _)).mono ?_
  rintro e w1 ⟨rfl, hb⟩
  go_wp2_with fail
  refine (legs_tk _ _ _ _).mono ?_
  rintro e w3 ⟨rfl, rfl⟩
  go_wp2_with fail
  refine (wpIn_wide (n := 5)).1 ?_
  have hz := hb.size
  obtain ⟨W0, hW0⟩ : ∃ W0, ((w1.alloc (.cells #[.int .i64 0] 3)).alloc (.cells #[.int .i64 0] 3)).alloc (.cells #[.slice (some ⟨b, off, none⟩) 3 c] 27) = W0 := ⟨_, rfl⟩
  rw [hW0]
  have pW : W0.heap.size = w1.heap.size + 1 + 1 + 1 ∧ W0.cell? ⟨w1.heap.size + 1 + 1, 0, none⟩ = some (.slice (some ⟨b, off, none⟩) 3 c) ∧
      (W0.cell? ⟨w1.heap.size, 0, none⟩ = some (.int .i64 0) ∧ W0.frozen? ⟨w1.heap.size, 0, none⟩ = false) ∧ (W0.cell? ⟨w1.heap.size + 1, 0, none⟩ = some (.int .i64 0) ∧ W0.frozen? ⟨w1.heap.size + 1, 0, none⟩ = false) ∧ Below w.heap.size w W0 := by
    subst hW0
    have a1 := cell_new_l w1 (.int .i64 0) 3
    have a2 := cell_new_l (w1.alloc (.cells #[.int .i64 0] 3)) (.int .i64 0) 3
    have a3 := cell_new_l ((w1.alloc (.cells #[.int .i64 0] 3)).alloc (.cells #[.int .i64 0] 3)) (.slice (some ⟨b, off, none⟩) 3 c) 27
    simp only [World.size_alloc] at a2 a3
    exact ⟨by simp, a3.1, ⟨cell_alloc_l _ (cell_alloc_l _ a1.1), frozen_alloc_l _ (cell_alloc_l _ a1.1) (frozen_alloc_l _ a1.1 a1.2)⟩, ⟨cell_alloc_l _ a2.1, frozen_alloc_l _ a2.1 a2.2⟩, ((hb.alloc (by omega) _).alloc (by simp <;> omega) _).alloc (by simp <;> omega) _⟩
  obtain ⟨q1, q2, ⟨q6, qf6⟩, ⟨q7, qf7⟩, q8⟩ := pW
  clear hW0 hb
  refine wpIn_rangeFunc_ownH rfl (by omega) (gf := 42) (lb := #[.pointer (some ⟨w1.heap.size + 1 + 1, 0, none⟩)]) rfl trivial (enters_of Tryd.func42 (by kernel_rfl) rfl)
    (legs_stops 4 (by omega) (w1.heap.size + 1 + 1) b off 2 c (fun q => q = b ∨ q = w1.heap.size + 1 + 1) (.inl rfl) (.inr rfl) (fun i => legs08.getD i default) (by omega) h1 (by omega) W0 (fun q hq => by rcases hq with rfl | rfl <;> omega) q2
      (fun k hk => ⟨(q8.cell (p := ⟨b, off + k * 2, none⟩) hbl).trans (HCE.out k hk).1, (q8.cell (p := ⟨b, off + k * 2 + 1, none⟩) hbl).trans (HCE.out k hk).2⟩))
    (fun h k => KeepB.trans h k) (fun W l' o o' hl _ _ _ => KeepB.putObj (n := W0.heap.size) (fun q hq => by rcases hq with rfl | rfl <;> omega) W l' o' hl) (Below.refl _ _) (fun _ => rfl)
    (fun pre W => ((W.cell? ⟨w1.heap.size, 0, none⟩ = some (.int .i64 (sumS pre)) ∧ W.frozen? ⟨w1.heap.size, 0, none⟩ = false) ∧ (W.cell? ⟨w1.heap.size + 1, 0, none⟩ = some (.int .i64 (sumD pre)) ∧ W.frozen? ⟨w1.heap.size + 1, 0, none⟩ = false)) ∧ Below w.heap.size w W ∧ W0.heap.size ≤ W.heap.size)
    (fun _ _ _ => False)
    (OwnFrom.and (Own.from (fun s A B row hs hg hr => ⟨⟨cell_kept hs.1.1 hg hr, (frozen_kept hs.1.1 hg hr).trans hs.1.2⟩, cell_kept hs.2.1 hg hr, (frozen_kept hs.2.1 hg hr).trans hs.2.2⟩) _) (OwnFrom.and (ownFrom_below (Nat.le_refl _) (by omega)) (ownFrom_size _ _)))
    (fun _ _ _ _ _ hs _ _ => hs)
    ⟨⟨⟨q6, qf6⟩, q7, qf7⟩, q8, Nat.le_refl _⟩
    (fun z a' W => ∃ Bx, W0.heap.size ≤ Bx ∧ (W.cell? ⟨Bx, 0, none⟩ = some (.int .i64 z.fx) ∧ W.cell? ⟨Bx, 1, none⟩ = some (.int .i64 z.fy) ∧ W.cell? ⟨Bx, 2, none⟩ = some (.int .i64 z.wx) ∧ W.cell? ⟨Bx, 3, none⟩ = some (.int .i64 z.wy) ∧ W.cell? ⟨Bx, 4, none⟩ = some (.int .i64 z.far)) ∧ Bx < W.heap.size ∧
      a' = { tmps := #[.slice (some ⟨b, off, none⟩) 3 c, undef, .int .i64 0, .int .i64 0, .int .i64 0, .int .i64 0, .pointer (some ⟨w1.heap.size, 0, none⟩), .pointer (some ⟨w1.heap.size + 1, 0, none⟩), .pointer (some ⟨Bx, 0, none⟩), .slice (some ⟨b, off, none⟩) 3 c, .int .i64 0, .int .i64 0, .bool false, undef, .slice (some ⟨b, off, none⟩) 3 c, .func (.func 42) #[] #[.pointer (some ⟨w1.heap.size + 1 + 1, 0, none⟩)], encLeg z, undef, undef, undef, undef, undef, undef, undef, undef, undef, undef, undef, undef, undef, undef, undef, undef, undef, undef, undef], defers := [] })
    (fun z a' s A B row hs hg hr => by
      obtain ⟨Bx, hB0, h, hB1, e⟩ := hs
      have hr' := fun r e => (hr r e).2
      exact ⟨Bx, hB0, ⟨cell_kept h.1 hg hr', cell_kept h.2.1 hg hr', cell_kept h.2.2.1 hg hr', cell_kept h.2.2.2.1 hg hr', cell_kept h.2.2.2.2 hg hr'⟩, Nat.lt_of_lt_of_le hB1 hg.size, e⟩)
    ?assign ?body ?done ?stop
  case assign =>
    rintro l' pre z W K ⟨⟨⟨p6, pf6⟩, p7, pf7⟩, hB, hS0⟩ hK
    obtain ⟨fx, fy, wx, wy, far⟩ := z
    dsimp only [encLeg]
    have hK' := hK { tmps := #[.slice (some ⟨b, off, none⟩) 3 c, undef, .int .i64 0, .int .i64 0, .int .i64 0, .int .i64 0, .pointer (some ⟨w1.heap.size, 0, none⟩), .pointer (some ⟨w1.heap.size + 1, 0, none⟩), .pointer (some ⟨W.heap.size, 0, none⟩), .slice (some ⟨b, off, none⟩) 3 c, .int .i64 0, .int .i64 0, .bool false, undef, .slice (some ⟨b, off, none⟩) 3 c, .func (.func 42) #[] #[.pointer (some ⟨w1.heap.size + 1 + 1, 0, none⟩)], .agg #[.int .i64 fx, .int .i64 fy, .int .i64 wx, .int .i64 wy, .int .i64 far], undef, undef, undef, undef, undef, undef, undef, undef, undef, undef, undef, undef, undef, undef, undef, undef, undef, undef, undef], defers := [] }
      (W.alloc (.cells #[.int .i64 fx, .int .i64 fy, .int .i64 wx, .int .i64 wy, .int .i64 far] 68)) ((KeepsOthers.alloc _ _).from _) (KeepB.below ((Below.refl _ _).alloc (Nat.le_refl _) _) (fun q hq => by rcases hq with rfl | rfl <;> omega))
      ⟨⟨⟨cell_alloc_l _ p6, frozen_alloc_l _ p6 pf6⟩, cell_alloc_l _ p7, frozen_alloc_l _ p7 pf7⟩, hB.alloc hB.size _, by simp <;> omega⟩ ⟨W.heap.size, hS0, by simp [go_sem], by simp, rfl⟩
    have HK := Lib.hid hK'
    clear hK hK'
    gi_wp2
    exact HK.out
  case body =>
    rintro l' pre z a' W hl ⟨r, hr⟩ ⟨⟨⟨p6, pf6⟩, p7, pf7⟩, hB, hS0⟩ ⟨Bx, hB0, ⟨x0, x1, x2, x3, x4⟩, hB1, rfl⟩ hlt
    have hcall := straight_tk z W
    have hss : sumS (pre ++ [z]) = if (z.wx == 0 || z.wy == 0) then wrap64 (sumS pre + z.far) else sumS pre := by simp [sumS]
    have hsd : sumD (pre ++ [z]) = if (z.wx == 0 || z.wy == 0) then sumD pre else wrap64 (sumD pre + z.far) := by simp [sumD]
    have HSS := Lib.hid hss
    have HSD := Lib.hid hsd
    clear hss hsd
    cases hst : (z.wx == 0 || z.wy == 0) with
    | true =>
      rw [hst] at hcall
      have HC2 := Lib.hid hcall
      have HZ := Lib.hid hst
      clear hcall hst
      gi_wp2_with fail
      refine ⟨trivial, (CallsIn.inRound l' (callsIn_wide.2 HC2.out)).mono ?_⟩
      rintro e w4 ⟨rfl, hb⟩
      have hs4 := hb.size
      replace p6 := (hb.cell (p := ⟨w1.heap.size, 0, none⟩) (by simp <;> omega)).trans p6
      replace pf6 := (hb.frozen (p := ⟨w1.heap.size, 0, none⟩) (by simp <;> omega)).trans pf6
      replace p7 := (hb.cell (p := ⟨w1.heap.size + 1, 0, none⟩) (by simp <;> omega)).trans p7
      replace pf7 := (hb.frozen (p := ⟨w1.heap.size + 1, 0, none⟩) (by simp <;> omega)).trans pf7
      replace x4 := (hb.cell (p := ⟨Bx, 4, none⟩) hB1).trans x4
      have hb4 := hB.trans (hb.mono hB.size)
      have hkf : KeepsFrom W0.heap.size W w4 := ⟨hb.size, fun k o _ hk _ => (hb.block k (Array.getElem?_eq_some_iff.1 hk).1).trans hk⟩
      have hkb : KeepB (fun q => q = b ∨ q = w1.heap.size + 1 + 1) W w4 := KeepB.below hb (fun q hq => by rcases hq with rfl | rfl <;> omega)
      clear x0 x1 x2 x3 hb
      gi_wp2_with fail
      refine ⟨hkf.trans ((KeepsOthers.setCell _ _ _).from _), hkb.setCell (p := ⟨w1.heap.size, 0, none⟩) (by simp <;> omega) _, ⟨⟨?_, ?_⟩, ?_, ?_⟩, hb4.setCell (p := ⟨w1.heap.size, 0, none⟩) (by simp <;> omega) _, by simp [World.setCell] <;> omega⟩
      · rw [HSS.out, HZ.out]
        exact World.cell?_setCell_same' _ _ _ (by rw [p6]; rfl)
      · rw [World.frozen?_setCell]; exact pf6
      · rw [HSD.out, HZ.out]
        exact (World.cell?_setCell_other _ _ _ _ (by simp)).trans p7
      · rw [World.frozen?_setCell]; exact pf7
    | false =>
      rw [hst] at hcall
      have HC2 := Lib.hid hcall
      have HZ := Lib.hid hst
      clear hcall hst
      gi_wp2_with fail
      refine ⟨trivial, (CallsIn.inRound l' (callsIn_wide.2 HC2.out)).mono ?_⟩
      rintro e w4 ⟨rfl, hb⟩
      have hs4 := hb.size
      replace p6 := (hb.cell (p := ⟨w1.heap.size, 0, none⟩) (by simp <;> omega)).trans p6
      replace pf6 := (hb.frozen (p := ⟨w1.heap.size, 0, none⟩) (by simp <;> omega)).trans pf6
      replace p7 := (hb.cell (p := ⟨w1.heap.size + 1, 0, none⟩) (by simp <;> omega)).trans p7
      replace pf7 := (hb.frozen (p := ⟨w1.heap.size + 1, 0, none⟩) (by simp <;> omega)).trans pf7
      replace x4 := (hb.cell (p := ⟨Bx, 4, none⟩) hB1).trans x4
      have hb4 := hB.trans (hb.mono hB.size)
      have hkf : KeepsFrom W0.heap.size W w4 := ⟨hb.size, fun k o _ hk _ => (hb.block k (Array.getElem?_eq_some_iff.1 hk).1).trans hk⟩
      have hkb : KeepB (fun q => q = b ∨ q = w1.heap.size + 1 + 1) W w4 := KeepB.below hb (fun q hq => by rcases hq with rfl | rfl <;> omega)
      clear x0 x1 x2 x3 hb
      gi_wp2_with fail
      refine ⟨hkf.trans ((KeepsOthers.setCell _ _ _).from _), hkb.setCell (p := ⟨w1.heap.size + 1, 0, none⟩) (by simp <;> omega) _, ⟨⟨?_, ?_⟩, ?_, ?_⟩, hb4.setCell (p := ⟨w1.heap.size + 1, 0, none⟩) (by simp <;> omega) _, by simp [World.setCell] <;> omega⟩
      · rw [HSS.out, HZ.out]
        exact (World.cell?_setCell_other _ _ _ _ (by simp)).trans p6
      · rw [World.frozen?_setCell]; exact pf6
      · rw [HSD.out, HZ.out]
        exact World.cell?_setCell_same' _ _ _ (by rw [p7]; rfl)
      · rw [World.frozen?_setCell]; exact pf7
  case done =>
    rintro D ys W hD rfl ⟨⟨⟨p6, pf6⟩, p7, pf7⟩, hB, hS0⟩ hK
    rw [← HU.out, sums08.1] at p6
    rw [← HU.out, sums08.2] at p7
    go_wp2_with fail
    go_quiet ((go_at_call 38; exact quiet_left (rooted_2 _)))
    obtain ⟨W5, hW5⟩ : ∃ W5, W.drewN nq = W5 := ⟨_, rfl⟩
    rw [hW5]
    have r6 : W5.cell? ⟨w1.heap.size, 0, none⟩ = some (.int .i64 3) := by rw [← hW5]; exact p6
    have r7 : W5.cell? ⟨w1.heap.size + 1, 0, none⟩ = some (.int .i64 2) := by rw [← hW5]; exact p7
    have hK5 : W5.heap[D]? = some (.deferred (some [])) := by rw [← hW5]; exact hK
    have hB5 : Below w.heap.size w W5 := by rw [← hW5]; exact ⟨hB.os, hB.tape, hB.output, hB.size, hB.block⟩
    clear hW5 p6 p7 pf6 pf7 hK hB hS0
    go_wp2_with fail
    go_region
    go_wp2_with fail
    refine ⟨by simp, .inl ⟨_, _, rfl, run_takeDeferred (show W5.drew.heap[D]? = _ from hK5), ?_⟩⟩
    refine ⟨.tuple #[.int .i64 5, .int .i64 6, .int .i64 0], by simp [results, Tryd.results20, go_sem], rfl, hB5.drew.trans (belowK_b (w := w) (Nat.le_refl _) W5.drew D _ _ (by omega) hK5 rfl rfl)⟩
  case stop =>
    rintro D c' pre W hD _ h hK
    exact h.elim
end Go.Proofs.YtnbdnnbeiohmgaaDoor
