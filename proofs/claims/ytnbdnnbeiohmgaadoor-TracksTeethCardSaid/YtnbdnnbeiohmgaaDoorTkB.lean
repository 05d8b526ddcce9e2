/- Length, at the track of the chapter's first example. -/
import Derived.Laws.StructEq
import Derived.BigQuiet
import Derived.Deep.QuietTactic
import Derived.Deep.AppendLies
import Derived.Deep.RegionHeld3
import Derived.Test.YtnbdnnbeiohmgaaDoorTkA
namespace Go.Proofs.YtnbdnnbeiohmgaaDoor
open Go.RowKit Go.Shelf
open Go.Proofs.Rings (Leg sg)
attribute [local go_sem] Oper.semAt_some

theorem quiet_leftT {P : Program} {f : FuncId} {args : Array Value} {w : World} {n : Nat} {v : Value}
    (h : Calls P f args (w.drewN n) fun e w' => e = .returned v ∧ w.drewN n = w') : Calls P f args (w.drewN n) fun e w' => e = .returned v ∧ ∃ m, w' = w.drewN m :=
  h.mono fun _ _ ⟨he, hm⟩ => ⟨he, n, hm.symm⟩

theorem mul64_24 (w : World) : Calls Tryd.prog 59 #[.int .u64 2, .int .u64 4] w fun e w' => e = .returned (.tuple #[.int .u64 0, .int .u64 8]) ∧ w = w' := by
  go_enter Tryd.func59, Tryd.ntmps59
  go_wp2
  go_ret2
  exact ⟨rfl, rfl⟩
theorem mul64_22 (w : World) : Calls Tryd.prog 59 #[.int .u64 2, .int .u64 2] w fun e w' => e = .returned (.tuple #[.int .u64 0, .int .u64 4]) ∧ w = w' := by
  go_enter Tryd.func59, Tryd.ntmps59
  go_wp2
  go_ret2
  exact ⟨rfl, rfl⟩
theorem mul64_33 (w : World) : Calls Tryd.prog 59 #[.int .u64 3, .int .u64 3] w fun e w' => e = .returned (.tuple #[.int .u64 0, .int .u64 9]) ∧ w = w' := by
  go_enter Tryd.func59, Tryd.ntmps59
  go_wp2
  go_ret2
  exact ⟨rfl, rfl⟩

theorem rooted_2 (w : World) : Calls Tryd.prog 38 #[.int .i64 2] w fun e w' => e = .returned (.int .i64 2) ∧ w = w' := by
  go_enter Tryd.func38, Tryd.ntmps38
  go_wp2_with fail
  refine (mul64_24 _).mono ?_
  rintro e w' ⟨rfl, rfl⟩
  go_wp2_with fail
  go_loop [5, 6] (fun a b => (a = .int .i64 0 ∧ b = .int .i64 5) ∨ (a = .int .i64 2 ∧ b = .int .i64 5) ∨ (a = .int .i64 2 ∧ b = .int .i64 3)) (fun a b => (intOf b - intOf a).toNat)
  case atStart => exact .inl ⟨rfl, rfl⟩
  case round =>
    rcases hrel with ⟨rfl, rfl⟩ | ⟨rfl, rfl⟩ | ⟨rfl, rfl⟩
    · go_wp2_with fail
      refine (mul64_22 _).mono ?_
      rintro e w' ⟨rfl, rfl⟩
      go_wp2_with fail
      go_round
      case rel => exact .inr (.inl ⟨rfl, rfl⟩)
      case measure => simp [intOf]
    · go_wp2_with fail
      refine (mul64_33 _).mono ?_
      rintro e w' ⟨rfl, rfl⟩
      go_wp2_with fail
      go_round
      case rel => exact .inr (.inr ⟨rfl, rfl⟩)
      case measure => simp [intOf]
    · go_wp2_with fail
      go_ret
      exact ⟨rfl, rfl⟩

def legs08 : List (Int × Int) := [(0, 0), (3, 0), (5, 2)]
theorem check08 : checkB legs08 = true := by decide +kernel
def sumS (pre : List Leg) : Int := pre.foldl (fun s x => if (x.wx == 0 || x.wy == 0) then wrap64 (s + x.far) else s) 0
def sumD (pre : List Leg) : Int := pre.foldl (fun s x => if (x.wx == 0 || x.wy == 0) then s else wrap64 (s + x.far)) 0
theorem sums08 : sumS (legsW legs08) = 3 ∧ sumD (legsW legs08) = 2 := by decide +kernel

set_option maxRecDepth 100000 in
set_option maxHeartbeats 4000000 in
theorem length_08 (v : Value) (w : World) (h : Spots w v legs08) :
    Calls Tryd.prog 20 #[v] w fun e w' => e = .returned (.tuple #[.int .i64 5, .int .i64 6, .int .i64 0]) ∧ Below w.heap.size w w' := by
  refine (callsIn_wide (n := 5)).1 ?_
  have hchk := fun (w' : World) (hb : Below w.heap.size w w') => check_tk v legs08 w' (h.below hb)
  rw [checkV_true check08] at hchk
  obtain ⟨A, c, e, h1, h2, h3⟩ := h
  have e3 : legs08.length = 3 := rfl
  rw [e3] at e h1
  subst e
  obtain ⟨b, off, rfl, hbl, hc⟩ := h3 (by decide)
  unfold maxLen at h2
  have HV := Lib.hid hchk
  have hcells : ∀ k, k ≤ 2 → w.cell? ⟨b, off + k * 2, none⟩ = some (.int .i64 (legs08.getD k default).1) ∧ w.cell? ⟨b, off + k * 2 + 1, none⟩ = some (.int .i64 (legs08.getD k default).2) := fun k hk =>
    hc k _ (by simp [List.getD, show k < legs08.length by rw [e3]; omega])
  have HCE := Lib.hid hcells
  have hup := legsW_upto legs08 2 rfl
  have HU := Lib.hid hup
  clear hchk h3 hc hcells e3 hup
  refine callsIn_of_wp_marks Tryd.func20 rfl trivial ?_ rfl
  simp only [Tryd.ntmps20, List.size_toArray, List.length_cons, List.length_nil, Nat.reduceAdd, Nat.reduceSub, Array.replicate_succ, Array.replicate_zero, List.push_toArray, List.append_toArray, List.nil_append, List.cons_append]
  refine wpIn_wide.2 ?_
  go_wp2_with fail
  refine (HV.out _ (Below.refl _ _)).mono ?_
  rintro e w1 ⟨rfl, hb⟩
  go_wp2_with fail
  refine (legs_tk _ _ _ _).mono ?_
  rintro e w3 ⟨rfl, rfl⟩
  go_wp2_with fail
  refine (wpIn_wide (n := 5)).1 ?_
  have hz := hb.size
  obtain ⟨W0, hW0⟩ : ∃ W0, ((w1.alloc (.cells #[.int .i64 0] 3)).alloc (.cells #[.int .i64 0] 3)).alloc (.cells #[.slice (some ⟨b, off, none⟩) 3 c] 27) = W0 := ⟨_, rfl⟩
  rw [hW0]
  have pW : W0.heap.size = w1.heap.size + 1 + 1 + 1 ∧ W0.cell? ⟨w1.heap.size + 1 + 1, 0, none⟩ = some (.slice (some ⟨b, off, none⟩) 3 c) ∧
      (W0.cell? ⟨w1.heap.size, 0, none⟩ = some (.int .i64 0) ∧ W0.frozen? ⟨w1.heap.size, 0, none⟩ = false) ∧ (W0.cell? ⟨w1.heap.size + 1, 0, none⟩ = some (.int .i64 0) ∧ W0.frozen? ⟨w1.heap.size + 1, 0, none⟩ = false) ∧ Below w.heap.size w W0 := by
    subst hW0
    have a1 := cell_new_l w1 (.int .i64 0) 3
    have a2 := cell_new_l (w1.alloc (.cells #[.int .i64 0] 3)) (.int .i64 0) 3
    have a3 := cell_new_l ((w1.alloc (.cells #[.int .i64 0] 3)).alloc (.cells #[.int .i64 0] 3)) (.slice (some ⟨b, off, none⟩) 3 c) 27
    simp only [World.size_alloc] at a2 a3
    exact ⟨by simp, a3.1, ⟨cell_alloc_l _ (cell_alloc_l _ a1.1), frozen_alloc_l _ (cell_alloc_l _ a1.1) (frozen_alloc_l _ a1.1 a1.2)⟩, ⟨cell_alloc_l _ a2.1, frozen_alloc_l _ a2.1 a2.2⟩, ((hb.alloc (by omega) _).alloc (by simp <;> omega) _).alloc (by simp <;> omega) _⟩
  obtain ⟨q1, q2, ⟨q6, qf6⟩, ⟨q7, qf7⟩, q8⟩ := pW
  clear hW0 hb
  refine wpIn_rangeFunc_ownH rfl (by omega) (gf := 42) (lb := #[.pointer (some ⟨w1.heap.size + 1 + 1, 0, none⟩)]) rfl trivial (enters_of Tryd.func42 (by kernel_rfl) rfl)
    (legs_stops 4 (by omega) (w1.heap.size + 1 + 1) b off 2 c (fun q => q = b ∨ q = w1.heap.size + 1 + 1) (.inl rfl) (.inr rfl) (fun i => legs08.getD i default) (by omega) h1 (by omega) W0 (fun q hq => by rcases hq with rfl | rfl <;> omega) q2
      (fun k hk => ⟨(q8.cell (p := ⟨b, off + k * 2, none⟩) hbl).trans (HCE.out k hk).1, (q8.cell (p := ⟨b, off + k * 2 + 1, none⟩) hbl).trans (HCE.out k hk).2⟩))
    (fun h k => KeepB.trans h k) (fun W l' o o' hl _ _ _ => KeepB.putObj (n := W0.heap.size) (fun q hq => by rcases hq with rfl | rfl <;> omega) W l' o' hl) (Below.refl _ _) (fun _ => rfl)
    (fun pre W => ((W.cell? ⟨w1.heap.size, 0, none⟩ = some (.int .i64 (sumS pre)) ∧ W.frozen? ⟨w1.heap.size, 0, none⟩ = false) ∧ (W.cell? ⟨w1.heap.size + 1, 0, none⟩ = some (.int .i64 (sumD pre)) ∧ W.frozen? ⟨w1.heap.size + 1, 0, none⟩ = false)) ∧ Below w.heap.size w W ∧ W0.heap.size ≤ W.heap.size)
    (fun _ _ _ => False)
    (OwnFrom.and (Own.from (fun s A B row hs hg hr => ⟨⟨cell_kept hs.1.1 hg hr, (frozen_kept hs.1.1 hg hr).trans hs.1.2⟩, cell_kept hs.2.1 hg hr, (frozen_kept hs.2.1 hg hr).trans hs.2.2⟩) _) (OwnFrom.and (ownFrom_below (Nat.le_refl _) (by omega)) (ownFrom_size _ _)))
    (fun _ _ _ _ _ hs _ _ => hs)
    ⟨⟨⟨q6, qf6⟩, q7, qf7⟩, q8, Nat.le_refl _⟩
    (fun z a' W => ∃ Bx, W0.heap.size ≤ Bx ∧ (W.cell? ⟨Bx, 0, none⟩ = some (.int .i64 z.fx) ∧ W.cell? ⟨Bx, 1, none⟩ = some (.int .i64 z.fy) ∧ W.cell? ⟨Bx, 2, none⟩ = some (.int .i64 z.wx) ∧ W.cell? ⟨Bx, 3, none⟩ = some (.int .i64 z.wy) ∧ W.cell? ⟨Bx, 4, none⟩ = some (.int .i64 z.far)) ∧ Bx < W.heap.size ∧
      a' = { tmps := #[.slice (some ⟨b, off, none⟩) 3 c, undef, .int .i64 0, .int .i64 0, .int .i64 0, .int .i64 0, .pointer (some ⟨w1.heap.size, 0, none⟩), .pointer (some ⟨w1.heap.size + 1, 0, none⟩), .pointer (some ⟨Bx, 0, none⟩), .slice (some ⟨b, off, none⟩) 3 c, .int .i64 0, .int .i64 0, .bool false, undef, .slice (some ⟨b, off, none⟩) 3 c, .func (.func 42) #[] #[.pointer (some ⟨w1.heap.size + 1 + 1, 0, none⟩)], encLeg z, undef, undef, undef, undef, undef, undef, undef, undef, undef, undef, undef, undef, undef, undef, undef, undef, undef, undef, undef], defers := [] })
    (fun z a' s A B row hs hg hr => by
      obtain ⟨Bx, hB0, h, hB1, e⟩ := hs
      have hr' := fun r e => (hr r e).2
      exact ⟨Bx, hB0, ⟨cell_kept h.1 hg hr', cell_kept h.2.1 hg hr', cell_kept h.2.2.1 hg hr', cell_kept h.2.2.2.1 hg hr', cell_kept h.2.2.2.2 hg hr'⟩, Nat.lt_of_lt_of_le hB1 hg.size, e⟩)
    ?assign ?body ?done ?stop
  case assign =>
    rintro l' pre z W K ⟨⟨⟨p6, pf6⟩, p7, pf7⟩, hB, hS0⟩ hK
    obtain ⟨fx, fy, wx, wy, far⟩ := z
    dsimp only [encLeg]
    have hK' := hK { tmps := #[.slice (some ⟨b, off, none⟩) 3 c, undef, .int .i64 0, .int .i64 0, .int .i64 0, .int .i64 0, .pointer (some ⟨w1.heap.size, 0, none⟩), .pointer (some ⟨w1.heap.size + 1, 0, none⟩), .pointer (some ⟨W.heap.size, 0, none⟩), .slice (some ⟨b, off, none⟩) 3 c, .int .i64 0, .int .i64 0, .bool false, undef, .slice (some ⟨b, off, none⟩) 3 c, .func (.func 42) #[] #[.pointer (some ⟨w1.heap.size + 1 + 1, 0, none⟩)], .agg #[.int .i64 fx, .int .i64 fy, .int .i64 wx, .int .i64 wy, .int .i64 far], undef, undef, undef, undef, undef, undef, undef, undef, undef, undef, undef, undef, undef, undef, undef, undef, undef, undef, undef], defers := [] }
      (W.alloc (.cells #[.int .i64 fx, .int .i64 fy, .int .i64 wx, .int .i64 wy, .int .i64 far] 68)) ((KeepsOthers.alloc _ _).from _) (KeepB.below ((Below.refl _ _).alloc (Nat.le_refl _) _) (fun q hq => by rcases hq with rfl | rfl <;> omega))
      ⟨⟨⟨cell_alloc_l _ p6, frozen_alloc_l _ p6 pf6⟩, cell_alloc_l _ p7, frozen_alloc_l _ p7 pf7⟩, hB.alloc hB.size _, by simp <;> omega⟩ ⟨W.heap.size, hS0, by simp [go_sem], by simp, rfl⟩
    have HK := Lib.hid hK'
    clear hK hK'
    gi_wp2
    exact HK.out
  case body =>
    rintro l' pre z a' W hl ⟨r, hr⟩ ⟨⟨⟨p6, pf6⟩, p7, pf7⟩, hB, hS0⟩ ⟨Bx, hB0, ⟨x0, x1, x2, x3, x4⟩, hB1, rfl⟩ hlt
    have hcall := straight_tk z W
    have hss : sumS (pre ++ [z]) = if (z.wx == 0 || z.wy == 0) then wrap64 (sumS pre + z.far) else sumS pre := by simp [sumS]
    have hsd : sumD (pre ++ [z]) = if (z.wx == 0 || z.wy == 0) then sumD pre else wrap64 (sumD pre + z.far) := by simp [sumD]
    have HSS := Lib.hid hss
    have HSD := Lib.hid hsd
    clear hss hsd
    cases hst : (z.wx == 0 || z.wy == 0) with
    | true =>
      rw [hst] at hcall
      have HC2 := Lib.hid hcall
      have HZ := Lib.hid hst
      clear hcall hst
      gi_wp2_with fail
      refine ⟨trivial, (CallsIn.inRound l' (callsIn_wide.2 HC2.out)).mono ?_⟩
      rintro e w4 ⟨rfl, hb⟩
      have hs4 := hb.size
      replace p6 := (hb.cell (p := ⟨w1.heap.size, 0, none⟩) (by simp <;> omega)).trans p6
      replace pf6 := (hb.frozen (p := ⟨w1.heap.size, 0, none⟩) (by simp <;> omega)).trans pf6
      replace p7 := (hb.cell (p := ⟨w1.heap.size + 1, 0, none⟩) (by simp <;> omega)).trans p7
      replace pf7 := (hb.frozen (p := ⟨w1.heap.size + 1, 0, none⟩) (by simp <;> omega)).trans pf7
      replace x4 := (hb.cell (p := ⟨Bx, 4, none⟩) hB1).trans x4
      have hb4 := hB.trans (hb.mono hB.size)
      have hkf : KeepsFrom W0.heap.size W w4 := ⟨hb.size, fun k o _ hk _ => (hb.block k (Array.getElem?_eq_some_iff.1 hk).1).trans hk⟩
      have hkb : KeepB (fun q => q = b ∨ q = w1.heap.size + 1 + 1) W w4 := KeepB.below hb (fun q hq => by rcases hq with rfl | rfl <;> omega)
      clear x0 x1 x2 x3 hb
      gi_wp2_with fail
      refine ⟨hkf.trans ((KeepsOthers.setCell _ _ _).from _), hkb.setCell (p := ⟨w1.heap.size, 0, none⟩) (by simp <;> omega) _, ⟨⟨?_, ?_⟩, ?_, ?_⟩, hb4.setCell (p := ⟨w1.heap.size, 0, none⟩) (by simp <;> omega) _, by simp [World.setCell] <;> omega⟩
      · rw [HSS.out, HZ.out]
        exact World.cell?_setCell_same' _ _ _ (by rw [p6]; rfl)
      · rw [World.frozen?_setCell]; exact pf6
      · rw [HSD.out, HZ.out]
        exact (World.cell?_setCell_other _ _ _ _ (by simp)).trans p7
      · rw [World.frozen?_setCell]; exact pf7
    | false =>
      rw [hst] at hcall
      have HC2 := Lib.hid hcall
      have HZ := Lib.hid hst
      clear hcall hst
      gi_wp2_with fail
      refine ⟨trivial, (CallsIn.inRound l' (callsIn_wide.2 HC2.out)).mono ?_⟩
      rintro e w4 ⟨rfl, hb⟩
      have hs4 := hb.size
      replace p6 := (hb.cell (p := ⟨w1.heap.size, 0, none⟩) (by simp <;> omega)).trans p6
      replace pf6 := (hb.frozen (p := ⟨w1.heap.size, 0, none⟩) (by simp <;> omega)).trans pf6
      replace p7 := (hb.cell (p := ⟨w1.heap.size + 1, 0, none⟩) (by simp <;> omega)).trans p7
      replace pf7 := (hb.frozen (p := ⟨w1.heap.size + 1, 0, none⟩) (by simp <;> omega)).trans pf7
      replace x4 := (hb.cell (p := ⟨Bx, 4, none⟩) hB1).trans x4
      have hb4 := hB.trans (hb.mono hB.size)
      have hkf : KeepsFrom W0.heap.size W w4 := ⟨hb.size, fun k o _ hk _ => (hb.block k (Array.getElem?_eq_some_iff.1 hk).1).trans hk⟩
      have hkb : KeepB (fun q => q = b ∨ q = w1.heap.size + 1 + 1) W w4 := KeepB.below hb (fun q hq => by rcases hq with rfl | rfl <;> omega)
      clear x0 x1 x2 x3 hb
      gi_wp2_with fail
      refine ⟨hkf.trans ((KeepsOthers.setCell _ _ _).from _), hkb.setCell (p := ⟨w1.heap.size + 1, 0, none⟩) (by simp <;> omega) _, ⟨⟨?_, ?_⟩, ?_, ?_⟩, hb4.setCell (p := ⟨w1.heap.size + 1, 0, none⟩) (by simp <;> omega) _, by simp [World.setCell] <;> omega⟩
      · rw [HSS.out, HZ.out]
        exact (World.cell?_setCell_other _ _ _ _ (by simp)).trans p6
      · rw [World.frozen?_setCell]; exact pf6
      · rw [HSD.out, HZ.out]
        exact World.cell?_setCell_same' _ _ _ (by rw [p7]; rfl)
      · rw [World.frozen?_setCell]; exact pf7
  case done =>
    rintro D ys W hD rfl ⟨⟨⟨p6, pf6⟩, p7, pf7⟩, hB, hS0⟩ hK
    rw [← HU.out, sums08.1] at p6
    rw [← HU.out, sums08.2] at p7
    go_wp2_with fail
    go_quiet ((go_at_call 38; exact quiet_leftT (rooted_2 _)))
    obtain ⟨W5, hW5⟩ : ∃ W5, W.drewN nq = W5 := ⟨_, rfl⟩
    rw [hW5]
    have r6 : W5.cell? ⟨w1.heap.size, 0, none⟩ = some (.int .i64 3) := by rw [← hW5]; exact p6
    have r7 : W5.cell? ⟨w1.heap.size + 1, 0, none⟩ = some (.int .i64 2) := by rw [← hW5]; exact p7
    have hK5 : W5.heap[D]? = some (.deferred (some [])) := by rw [← hW5]; exact hK
    have hB5 : Below w.heap.size w W5 := by rw [← hW5]; exact ⟨hB.os, hB.tape, hB.output, hB.size, hB.block⟩
    clear hW5 p6 p7 pf6 pf7 hK hB hS0
    go_wp2_with fail
    go_region
    go_wp2_with fail
    refine ⟨by simp, .inl ⟨_, _, rfl, run_takeDeferred (show W5.drew.heap[D]? = _ from hK5), ?_⟩⟩
    refine ⟨.tuple #[.int .i64 5, .int .i64 6, .int .i64 0], by simp [results, Tryd.results20, go_sem], rfl, hB5.drew.trans (belowK_b (w := w) (Nat.le_refl _) W5.drew D _ _ (by omega) hK5 rfl rfl)⟩
  case stop =>
    rintro D c' pre W hD _ h hK
    exact h.elim
end Go.Proofs.YtnbdnnbeiohmgaaDoor
/- slices.Equal, of two slices that read as one list of spots. -/
namespace Go.Proofs.YtnbdnnbeiohmgaaDoor
open Go.RowKit

theorem neq_same (x y : Int) (w : World) : (binOp .neq 23 (.agg #[.int .i64 x, .int .i64 y]) (.agg #[.int .i64 x, .int .i64 y])).run Tryd.prog w = .ok (.bool false)  w := by
  have hS : Tryd.prog.underlying 23 = some (.struct (Tryd.prog.fieldsOf 23)) := by kernel_rfl
  have hp : Tryd.prog.stoodInHeld 23 = false := by kernel_rfl
  have a3 := Tryd.isAgg3
  have z3 := Tryd.sizeOf3
  have u3 := Tryd.underlying3
  rw [run_neq_struct, show (10000 : Nat) = 9999 + 1 from rfl, run_equalIn_agg w 9999 23 _ _ hS hp]
  simp only [Program.fieldsOf, Tryd.underlying23]
  go_simp

set_option maxHeartbeats 1000000 in
theorem equal_tk (a b : Value) (l : List (Int × Int)) (w : World) (ha : Spots w a l) (hb : Spots w b l) :
    Calls Tryd.prog 17 #[a, b] w fun e w' => e = .returned (.bool true) ∧ Below w.heap.size w w' := by
  obtain ⟨A, c, rfl, h1, h2, h3⟩ := ha
  obtain ⟨A', c', rfl, h1', h2', h3'⟩ := hb
  unfold maxLen at h2 h2'
  have t0 : ((l.length : Int) != (l.length : Int)) = false := by simp
  go_enter Tryd.func17, Tryd.ntmps17
  go_wp2_with fail
  go_loopw [13] (fun i wr => ∃ k : Nat, k ≤ l.length ∧ i = .int .i64 k ∧ Below w.heap.size w wr) (fun i _ => l.length - (intOf i).toNat)
  case atStart => exact ⟨0, Nat.zero_le _, rfl, Below.refl _ _⟩
  case round =>
    obtain ⟨k, hk, rfl, hb⟩ := hrel
    by_cases hlt : k < l.length
    · obtain ⟨b, off, rfl, hbl, hc⟩ := h3 (by omega)
      obtain ⟨b', off', rfl, hbl', hc'⟩ := h3' (by omega)
      obtain ⟨⟨x, y⟩, hs⟩ : ∃ s, l[k]? = some s := ⟨_, List.getElem?_eq_getElem hlt⟩
      have hx := (hb.cell (p := ⟨b, off + k * 2, none⟩) hbl).trans (hc k _ hs).1
      have hy := (hb.cell (p := ⟨b, off + k * 2 + 1, none⟩) hbl).trans (hc k _ hs).2
      have hx' := (hb.cell (p := ⟨b', off' + k * 2, none⟩) hbl').trans (hc' k _ hs).1
      have hy' := (hb.cell (p := ⟨b', off' + k * 2 + 1, none⟩) hbl').trans (hc' k _ hs).2
      clear hs hc h3 hc' h3' t0
      dsimp only at hx hy hx' hy'
      have hneq := neq_same x y
      have hi : (k : Int) < (l.length : Int) := by omega
      go_wp2_with fail
      go_quiet (fail)
      go_wp2_with fail
      go_roundw
      case rel => exact ⟨k + 1, by omega, by go_num, ⟨hb.os, hb.tape, hb.output, hb.size, hb.block⟩⟩
      case measure => simp [intOf]; omega
    · have hke : k = l.length := by omega
      subst hke
      clear h3 h3' t0
      go_wp2_with fail
      go_ret
      exact ⟨rfl, hb⟩
end Go.Proofs.YtnbdnnbeiohmgaaDoor
/- Rows of the call's own that read as spots; the closures of turned. -/
namespace Go.Proofs.YtnbdnnbeiohmgaaDoor
open Go.RowKit

theorem turned_0 (w : World) : Calls Tryd.prog 36 #[.int .i64 0] w fun e w' => e = .returned (.func (.func 57) #[] #[]) ∧ w = w' := by
  go_enter Tryd.func36, Tryd.ntmps36
  go_wp2
  go_ret
  exact ⟨rfl, rfl⟩
theorem same_tk (x y : Int) (w : World) : Calls Tryd.prog 57 #[.agg #[.int .i64 x, .int .i64 y]] w fun e w' => e = .returned (.agg #[.int .i64 x, .int .i64 y]) ∧ Below w.heap.size w w' := by
  go_enter Tryd.func57, Tryd.ntmps57
  go_wp2
  refine bodyPost_ret (v := .agg #[.int .i64 x, .int .i64 y]) (by simp [results, Tryd.results57, go_sem]) rfl ⟨rfl, ?_⟩
  exact ((Below.refl _ _).alloc (Nat.le_refl _) _).alloc (by simp) _

theorem Spots_two (w : World) (B : Nat) (hB : w.heap.size = B) (x y x' y' : Int) (t : TypeId) : Spots (w.alloc (.cells #[.int .i64 x, .int .i64 y, .int .i64 x', .int .i64 y'] t)) (.slice (some ⟨B, 0, none⟩) 2 2) [(x, y), (x', y')] := by
  subst hB
  refine ⟨_, 2, rfl, Nat.le_refl _, by unfold maxLen; omega, fun _ => ⟨w.heap.size, 0, rfl, by simp, fun k s hk => ?_⟩⟩
  match k, hk with
  | 0, hk => simp at hk; subst hk; simp [go_sem]
  | 1, hk => simp at hk; subst hk; simp [go_sem]
  | k + 2, hk => simp at hk

theorem infoSpot : (Tryd.prog.info? 23).map (fun i => (i.zero, i.size, i.bytes)) = some (some (.agg #[.int .i64 0, .int .i64 0]), 2, 16) := by kernel_rfl
theorem grown_of_below {w w' : World} (h : Below w.heap.size w w') : w.grownBy w' none := ⟨h.os, h.tape, h.output, h.size, fun i hi _ => h.block i hi⟩
theorem ownsRow_below {w w' : World} {base : Nat} {e : TypeId} {size : Nat} {v : Value} {n : Nat} {xs : List Value} (h : w.ownsRow base e size v n xs) (hb : Below w.heap.size w w') : w'.ownsRow base e size v n xs :=
  h.kept (grown_of_below hb) (by cases hv : v.ownBlock <;> simp)
/-- the cells of spots -/
def flatS (l : List (Int × Int)) : List Value := l.flatMap fun s => [.int .i64 s.1, .int .i64 s.2]
theorem flatS_append (l k : List (Int × Int)) : flatS (l ++ k) = flatS l ++ flatS k := by simp [flatS]
theorem flatS_get (l : List (Int × Int)) : ∀ (k : Nat) (s : Int × Int), l[k]? = some s → (flatS l)[k * 2]? = some (.int .i64 s.1) ∧ (flatS l)[k * 2 + 1]? = some (.int .i64 s.2) := by
  induction l with
  | nil => intro k s h; simp at h
  | cons a l ih =>
    intro k s h
    cases k with
    | zero => simp at h; subst h; simp [flatS]
    | succ k =>
      have := ih k s (by simpa using h)
      have e1 : (k + 1) * 2 = k * 2 + 2 := by omega
      have e2 : k * 2 + 2 + 1 = k * 2 + 1 + 2 := by omega
      rw [e1, e2]
      simpa [flatS] using this
/-- a row of the call's own reads as spots -/
theorem Spots_of_own {w : World} {base : Nat} {e : TypeId} {v : Value} {n : Nat} {l : List (Int × Int)} (h : w.ownsRow base e 2 v n (flatS l)) (hn : n = l.length) : Spots w v l := by
  subst hn
  rcases Nat.eq_zero_or_pos l.length with h0 | h0
  · have hl : l = [] := List.eq_nil_of_length_eq_zero h0
    subst hl
    rcases h.2 with ⟨rfl, _⟩ | ⟨g, cap, cur, rfl, _, hh, _, hm, _⟩
    · exact ⟨none, 0, rfl, Nat.le_refl _, by unfold maxLen; omega, fun h => absurd h (by simp)⟩
    · exact ⟨_, cap, rfl, by simp, by omega, fun h => absurd h (by simp)⟩
  · obtain ⟨g, cap, rfl, hb, hlt⟩ := h.form h0
    have hc := h.cells (g := g) rfl
    rcases h.2 with ⟨_, h1⟩ | ⟨g', cap', cur, hv, _, hh, hnc, hm, _⟩
    · omega
    · cases hv
      refine ⟨_, cap, rfl, hnc, by omega, fun _ => ⟨g, 0, rfl, hlt, fun k s hk => ?_⟩⟩
      obtain ⟨e1, e2⟩ := flatS_get l k s hk
      have a1 := hc _ _ e1
      have a2 := hc _ _ e2
      have ad : ∀ j, (⟨g, 0, none⟩ : Addr).add j = ⟨g, 0 + j, none⟩ := fun j => by unfold Addr.add; split <;> simp_all
      rw [ad] at a1 a2
      exact ⟨a1, by rw [Nat.add_assoc]; exact a2⟩

def par08 : List (Int × Int) := [(0, 2), (10, 2), (10, 6), (0, 6), (0, 9), (10, 9)]

end Go.Proofs.YtnbdnnbeiohmgaaDoor
/- Parallel, at the box of the chapter's first example. -/
namespace Go.Proofs.YtnbdnnbeiohmgaaDoor
open Go.RowKit

theorem below_of_grown {W W' : World} {row : Option Nat} {n : Nat} (h : W.grownBy W' row) (hr : ∀ g, row = some g → n ≤ g) (hn : n ≤ W.heap.size) : Below n W W' :=
  ⟨h.os, h.tape, h.output, h.size, fun k hk => h.block k (by omega) (fun hc => by have := hr k hc.symm; omega)⟩
theorem cell_alloc_k {W : World} {a : Addr} {v : Value} (o : Obj) (h : W.cell? a = some v) : (W.alloc o).cell? a = some v := by
  obtain ⟨o', ho, hc⟩ : ∃ o' : Obj, W.heap[a.block]? = some o' ∧ True := by
    cases hq : W.heap[a.block]? with
    | none => simp [World.cell?, hq] at h
    | some o' => exact ⟨o', rfl, trivial⟩
  exact (World.cell?_alloc_lt W o a (Array.getElem?_eq_some_iff.1 ho).1).trans h
/-- all ways through a region come to one end -/
theorem wp_one' {P : Program} {c : Code} {Q : Exit → Act → World → Prop} {a : Act} {w : World} {A : Act} {W : World} (h1 : c.wp P (fun e a' w' => e = Exit.normal ∧ a' = A ∧ w' = W) a w) (h2 : Q .normal A W) : c.wp P Q a w :=
  Code.wp_mono (fun _ _ _ ⟨he, ha, hw⟩ => by subst he; subst ha; subst hw; exact h2) h1

set_option maxRecDepth 100000 in
set_option maxHeartbeats 16000000 in
theorem parallel_08 (w : World) :
    Calls Tryd.prog 16 #[.agg #[.int .i64 0, .int .i64 0], .agg #[.int .i64 10, .int .i64 9], .int .i64 4, .int .i64 0] w fun e w' =>
      (∃ v, e = .returned (.tuple #[v, .int .i64 0]) ∧ Spots w' v par08) ∧ Below w.heap.size w w' := by
  go_enter Tryd.func16, Tryd.ntmps16
  go_wp2_with fail
  refine (valid_tk _ [(0, 0), (10, 9)] _ (Spots_two _ _ (by simp) _ _ _ _ _)).mono ?_
  rintro e w1 ⟨rfl, hb⟩
  rw [show [((0 : Int), (0 : Int)), (10, 9)].all okS = true from by decide +kernel]
  have c0 := hb.cell (p := ⟨w.heap.size, 0, none⟩) (by simp <;> omega)
  have c1 := hb.cell (p := ⟨w.heap.size, 1, none⟩) (by simp <;> omega)
  have c2 := hb.cell (p := ⟨w.heap.size + 1, 0, none⟩) (by simp <;> omega)
  have c3 := hb.cell (p := ⟨w.heap.size + 1, 1, none⟩) (by simp <;> omega)
  have f0 := hb.frozen (p := ⟨w.heap.size, 0, none⟩) (by simp <;> omega)
  have f1 := hb.frozen (p := ⟨w.heap.size, 1, none⟩) (by simp <;> omega)
  have f2 := hb.frozen (p := ⟨w.heap.size + 1, 0, none⟩) (by simp <;> omega)
  have f3 := hb.frozen (p := ⟨w.heap.size + 1, 1, none⟩) (by simp <;> omega)
  have hz := hb.size
  simp [go_sem] at c0 c1 c2 c3 f0 f1 f2 f3 hz
  have hbb : Below w.heap.size w w1 := ((((Below.refl w.heap.size w).alloc (Nat.le_refl _) (.cells #[.int .i64 0, .int .i64 0] 23)).alloc (by simp <;> omega) (.cells #[.int .i64 10, .int .i64 9] 23)).alloc (by simp <;> omega) _).trans (hb.mono (by simp <;> omega))
  clear hb
  go_wp2_with fail
  refine (within_tk _ _ _ _).mono ?_
  rintro e w' ⟨rfl, rfl⟩
  rw [show withinB 4 1 1048576 = true from rfl]
  go_wp2_with fail
  refine (within_tk _ _ _ _).mono ?_
  rintro e w' ⟨rfl, rfl⟩
  rw [show withinB 0 0 1 = true from rfl]
  go_wp2_with fail
  refine (turned_0 _).mono ?_
  rintro e w' ⟨rfl, rfl⟩
  go_wp2_with fail
  go_region_held3 (fun W' => W'.cell? ⟨w.heap.size, 0, none⟩ = some (.int .i64 0) ∧ W'.cell? ⟨w.heap.size, 1, none⟩ = some (.int .i64 0) ∧ W'.cell? ⟨w.heap.size + 1, 0, none⟩ = some (.int .i64 10) ∧ W'.cell? ⟨w.heap.size + 1, 1, none⟩ = some (.int .i64 9))
    (first | exact ⟨c0, c1, c2, c3⟩ | exact ⟨d0, d1, d2, d3⟩ | exact ⟨e0, e1, e2, e3⟩ | (simp [go_sem, e0, e1, e2, e3]; done))
    (first | (go_at_call 57; (with_reducible refine (same_tk 0 0 _).mono ?_); rintro e wa ⟨rfl, hba⟩; have hza : w1.heap.size ≤ wa.heap.size := hba.size; have d0 := (hba.cell (p := ⟨w.heap.size, 0, none⟩) (by simp <;> omega)).trans c0; have d1 := (hba.cell (p := ⟨w.heap.size, 1, none⟩) (by simp <;> omega)).trans c1; have d2 := (hba.cell (p := ⟨w.heap.size + 1, 0, none⟩) (by simp <;> omega)).trans c2; have d3 := (hba.cell (p := ⟨w.heap.size + 1, 1, none⟩) (by simp <;> omega)).trans c3; have g0 := (hba.frozen (p := ⟨w.heap.size, 0, none⟩) (by simp <;> omega)).trans f0; have g1 := (hba.frozen (p := ⟨w.heap.size, 1, none⟩) (by simp <;> omega)).trans f1; have g2 := (hba.frozen (p := ⟨w.heap.size + 1, 0, none⟩) (by simp <;> omega)).trans f2; have g3 := (hba.frozen (p := ⟨w.heap.size + 1, 1, none⟩) (by simp <;> omega)).trans f3; skip) | (go_at_call 57; (with_reducible refine (same_tk 10 9 _).mono ?_); rintro e wb ⟨rfl, hbd⟩; have hzb : wa.heap.size ≤ wb.heap.size := hbd.size; have e0 := (hbd.cell (p := ⟨w.heap.size, 0, none⟩) (by simp <;> omega)).trans d0; have e1 := (hbd.cell (p := ⟨w.heap.size, 1, none⟩) (by simp <;> omega)).trans d1; have e2 := (hbd.cell (p := ⟨w.heap.size + 1, 0, none⟩) (by simp <;> omega)).trans d2; have e3 := (hbd.cell (p := ⟨w.heap.size + 1, 1, none⟩) (by simp <;> omega)).trans d3; have k0 := (hbd.frozen (p := ⟨w.heap.size, 0, none⟩) (by simp <;> omega)).trans g0; have k1 := (hbd.frozen (p := ⟨w.heap.size, 1, none⟩) (by simp <;> omega)).trans g1; have k2 := (hbd.frozen (p := ⟨w.heap.size + 1, 0, none⟩) (by simp <;> omega)).trans g2; have k3 := (hbd.frozen (p := ⟨w.heap.size + 1, 1, none⟩) (by simp <;> omega)).trans g3; skip))
  rename_i hHeld
  clear hHeld
  have k4 : ∃ W4, ((((wb.setCell ⟨w.heap.size, 0, none⟩ (.int .i64 0)).setCell ⟨w.heap.size, 1, none⟩ (.int .i64 0)).setCell ⟨w.heap.size + 1, 0, none⟩ (.int .i64 10)).setCell ⟨w.heap.size + 1, 1, none⟩ (.int .i64 9)) = W4 := ⟨_, rfl⟩
  obtain ⟨W4, hW4⟩ := k4
  rw [hW4]
  have q0 : W4.cell? ⟨w.heap.size, 0, none⟩ = some (.int .i64 0) := by rw [← hW4]; simp [go_sem, e0, e1, e2, e3]
  have q1 : W4.cell? ⟨w.heap.size, 1, none⟩ = some (.int .i64 0) := by rw [← hW4]; simp [go_sem, e0, e1, e2, e3]
  have q2 : W4.cell? ⟨w.heap.size + 1, 0, none⟩ = some (.int .i64 10) := by rw [← hW4]; simp [go_sem, e0, e1, e2, e3]
  have q3 : W4.cell? ⟨w.heap.size + 1, 1, none⟩ = some (.int .i64 9) := by rw [← hW4]; simp [go_sem, e0, e1, e2, e3]
  have qb : Below w.heap.size w W4 := by
    rw [← hW4]
    have h1 : Below w.heap.size w1 wa := ⟨hba.os, hba.tape, hba.output, hba.size, fun k hk => hba.block k (Nat.lt_of_lt_of_le hk hbb.size)⟩
    exact (((((hbb.trans h1).trans (hbd.mono (by omega))).setCell (p := ⟨w.heap.size, 0, none⟩) (Nat.le_refl _) _).setCell (p := ⟨w.heap.size, 1, none⟩) (Nat.le_refl _) _).setCell (p := ⟨w.heap.size + 1, 0, none⟩) (by simp) _).setCell (p := ⟨w.heap.size + 1, 1, none⟩) (by simp) _
  have qz : w.heap.size + 1 + 1 ≤ W4.heap.size := by rw [← hW4]; simp [World.setCell]; omega
  clear hW4 c0 c1 c2 c3 f0 f1 f2 f3 d0 d1 d2 d3 g0 g1 g2 g3 e0 e1 e2 e3 k0 k1 k2 k3 hba hbd hza hzb hbb hz
  go_wp2_with fail
  obtain ⟨W5, hW5⟩ : ∃ W5, W4.alloc (.cells #[.int .i64 0, .int .i64 10] 58) = W5 := ⟨_, rfl⟩
  rw [hW5]
  have r0 : W5.cell? ⟨w.heap.size, 1, none⟩ = some (.int .i64 0) := by rw [← hW5]; exact (World.cell?_alloc_lt W4 _ ⟨w.heap.size, 1, none⟩ (by simp; omega)).trans q1
  have r1 : W5.cell? ⟨w.heap.size + 1, 1, none⟩ = some (.int .i64 9) := by rw [← hW5]; exact (World.cell?_alloc_lt W4 _ ⟨w.heap.size + 1, 1, none⟩ (by simp; omega)).trans q3
  have r2 : W5.cell? ⟨W4.heap.size, 0, none⟩ = some (.int .i64 0) := by rw [← hW5]; simp [go_sem]
  have r3 : W5.cell? ⟨W4.heap.size, 1, none⟩ = some (.int .i64 10) := by rw [← hW5]; simp [go_sem]
  have rb : Below w.heap.size w W5 := by rw [← hW5]; exact qb.alloc (by omega) _
  have rz : W5.heap.size = W4.heap.size + 1 := by rw [← hW5]; simp
  have RZ := Lib.hid rz
  have rz' : W4.heap.size + 1 ≤ W5.heap.size := by omega
  clear hW5 q0 q1 q2 q3 qb rz
  obtain ⟨i0, hi, hz0, hz1, hz2⟩ := info_parts infoSpot
  go_loopw [12, 72] (fun v i wr => ((i = .int .i64 0 ∧ wr.ownsRow (W4.heap.size + 1) 23 2 v 0 (flatS (par08.take 0))) ∨ (i = .int .i64 1 ∧ wr.ownsRow (W4.heap.size + 1) 23 2 v 2 (flatS (par08.take 2))) ∨
      (i = .int .i64 2 ∧ wr.ownsRow (W4.heap.size + 1) 23 2 v 4 (flatS (par08.take 4))) ∨ (i = .int .i64 3 ∧ wr.ownsRow (W4.heap.size + 1) 23 2 v 6 (flatS (par08.take 6)))) ∧ Below (W4.heap.size + 1) W5 wr)
    (fun _ i _ => 3 - (intOf i).toNat)
  case atStart => exact ⟨.inl ⟨rfl, World.ownsRow_nil _ _ _ _⟩, Below.refl _ _⟩
  case round =>
    obtain ⟨hrel, hb⟩ := hrel
    have s0 := (hb.cell (p := ⟨w.heap.size, 1, none⟩) (by simp; omega)).trans r0
    have s1 := (hb.cell (p := ⟨w.heap.size + 1, 1, none⟩) (by simp; omega)).trans r1
    have c0 := (hb.cell (p := ⟨W4.heap.size, 0, none⟩) (by simp)).trans r2
    have c1 := (hb.cell (p := ⟨W4.heap.size, 1, none⟩) (by simp)).trans r3
    have hs := hb.size
    have hlt : W4.heap.size < wr.heap.size := by omega
    clear r0 r1 r2 r3
    have y1 : IntKind.i64.wrap (1 : Int) = 1 := by decide
    have y0 : IntKind.i64.wrap (0 : Int) = 0 := by decide
    have hne : ∀ g, u12.ownBlock = some g → W4.heap.size + 1 ≤ g := fun g hg => by
      rcases hrel with ⟨-, hown⟩ | ⟨-, hown⟩ | ⟨-, hown⟩ | ⟨-, hown⟩ <;> exact (hown.lt g hg).1
    have hnb : some W4.heap.size ≠ u12.ownBlock := fun hc => by have := hne _ hc.symm; omega
    rcases hrel with ⟨rfl, hown⟩ | ⟨rfl, hown⟩ | ⟨rfl, hown⟩ | ⟨rfl, hown⟩
    · -- round 0
      go_wp2_with fail
      go_region_held3 (fun W' => W'.cell? ⟨W4.heap.size, 0, none⟩ = some (.int .i64 0) ∧ W'.cell? ⟨W4.heap.size, 1, none⟩ = some (.int .i64 10))
          (first | exact ⟨c0, c1⟩ | exact ⟨d0, d1⟩ | exact ⟨e0, e1⟩ | exact ⟨cell_alloc_k _ e0, cell_alloc_k _ e1⟩ | exact ⟨(hgrow6.cell_far _ (by simp; omega) hnb).trans (cell_alloc_k _ e0), (hgrow6.cell_far _ (by simp; omega) hnb).trans (cell_alloc_k _ e1)⟩)
          (first | (go_at_call 57; (with_reducible refine (same_tk 0 2 _).mono ?_); rintro e wa ⟨rfl, hba⟩; have d0 := (hba.cell (p := ⟨W4.heap.size, 0, none⟩) (show W4.heap.size < wr.heap.size by omega)).trans c0; have d1 := (hba.cell (p := ⟨W4.heap.size, 1, none⟩) (show W4.heap.size < wr.heap.size by omega)).trans c1; have hza : wr.heap.size ≤ wa.heap.size := hba.size; skip) | (go_at_call 57; (with_reducible refine (same_tk 10 2 _).mono ?_); rintro e wb ⟨rfl, hbd⟩; have e0 := (hbd.cell (p := ⟨W4.heap.size, 0, none⟩) (show W4.heap.size < wa.heap.size by omega)).trans d0; have e1 := (hbd.cell (p := ⟨W4.heap.size, 1, none⟩) (show W4.heap.size < wa.heap.size by omega)).trans d1; have hzb : wa.heap.size ≤ wb.heap.size := hbd.size; have hq := (ownsRow_below (ownsRow_below hown.drew hba) hbd); skip) | (refine step_append_lies _ (by rfl) _ _ _ (by rfl) (W4.heap.size + 1) 23 i0 _ 2 16 Tryd.underlying27 hi hz0 hz1 hz2 rfl (by omega) u12 0 (flatS (par08.take 0)) (by rfl) (hq.alloc _) ⟨wb.heap.size, 0, none⟩ 2 2 [.int .i64 0, .int .i64 2, .int .i64 10, .int .i64 2] (by rfl) (by rfl) (World.news_of_block (cs := #[.int .i64 0, .int .i64 2, .int .i64 10, .int .i64 2]) (t := 23) (fr := (0, 0)) (heap_alloc_new wb _)) (by simp [Value.oneCell']) (by omega) (by simp [maxLen]) (by omega) (by simp; omega) (wb.heap.size + 1) (by simp) ?_; intro g cap w6 hown6 hgrow6 hat6 hlt6))
      have hb6 : Below (W4.heap.size + 1) W5 w6 := by
        have hb1 : Below (W4.heap.size + 1) W5 wa := hb.trans (Below.mono (show Below wr.heap.size wr wa from ⟨hba.os, hba.tape, hba.output, hba.size, hba.block⟩) (by omega))
        have hb2 := hb1.trans (hbd.mono (by omega))
        exact (hb2.alloc (by omega) _).trans (below_of_grown hgrow6 hne (by simp; omega))
      have hown7 : w6.ownsRow (W4.heap.size + 1) 23 2 (.slice (some ⟨g, 0, none⟩) (0 + 2) cap) 2 (flatS (par08.take 2)) := hown6
      go_wp2_with fail
      go_roundw
      case rel => exact ⟨.inr (.inl ⟨rfl, hown7⟩), hb6⟩
      case measure => simp [intOf]
    · -- round 1
      go_wp2_with fail
      go_region_held3 (fun W' => W'.cell? ⟨W4.heap.size, 0, none⟩ = some (.int .i64 0) ∧ W'.cell? ⟨W4.heap.size, 1, none⟩ = some (.int .i64 10))
          (first | exact ⟨c0, c1⟩ | exact ⟨d0, d1⟩ | exact ⟨e0, e1⟩ | exact ⟨cell_alloc_k _ e0, cell_alloc_k _ e1⟩ | exact ⟨(hgrow6.cell_far _ (by simp; omega) hnb).trans (cell_alloc_k _ e0), (hgrow6.cell_far _ (by simp; omega) hnb).trans (cell_alloc_k _ e1)⟩)
          (first | (go_at_call 57; (with_reducible refine (same_tk 10 6 _).mono ?_); rintro e wa ⟨rfl, hba⟩; have d0 := (hba.cell (p := ⟨W4.heap.size, 0, none⟩) (show W4.heap.size < wr.heap.size by omega)).trans c0; have d1 := (hba.cell (p := ⟨W4.heap.size, 1, none⟩) (show W4.heap.size < wr.heap.size by omega)).trans c1; have hza : wr.heap.size ≤ wa.heap.size := hba.size; skip) | (go_at_call 57; (with_reducible refine (same_tk 0 6 _).mono ?_); rintro e wb ⟨rfl, hbd⟩; have e0 := (hbd.cell (p := ⟨W4.heap.size, 0, none⟩) (show W4.heap.size < wa.heap.size by omega)).trans d0; have e1 := (hbd.cell (p := ⟨W4.heap.size, 1, none⟩) (show W4.heap.size < wa.heap.size by omega)).trans d1; have hzb : wa.heap.size ≤ wb.heap.size := hbd.size; have hq := (ownsRow_below (ownsRow_below hown.drew hba) hbd); skip) | (refine step_append_lies _ (by rfl) _ _ _ (by rfl) (W4.heap.size + 1) 23 i0 _ 2 16 Tryd.underlying27 hi hz0 hz1 hz2 rfl (by omega) u12 2 (flatS (par08.take 2)) (by rfl) (hq.alloc _) ⟨wb.heap.size, 0, none⟩ 2 2 [.int .i64 10, .int .i64 6, .int .i64 0, .int .i64 6] (by rfl) (by rfl) (World.news_of_block (cs := #[.int .i64 10, .int .i64 6, .int .i64 0, .int .i64 6]) (t := 23) (fr := (0, 0)) (heap_alloc_new wb _)) (by simp [Value.oneCell']) (by omega) (by simp [maxLen]) (by omega) (by simp; omega) (wb.heap.size + 1) (by simp) ?_; intro g cap w6 hown6 hgrow6 hat6 hlt6))
      have hb6 : Below (W4.heap.size + 1) W5 w6 := by
        have hb1 : Below (W4.heap.size + 1) W5 wa := hb.trans (Below.mono (show Below wr.heap.size wr wa from ⟨hba.os, hba.tape, hba.output, hba.size, hba.block⟩) (by omega))
        have hb2 := hb1.trans (hbd.mono (by omega))
        exact (hb2.alloc (by omega) _).trans (below_of_grown hgrow6 hne (by simp; omega))
      have hown7 : w6.ownsRow (W4.heap.size + 1) 23 2 (.slice (some ⟨g, 0, none⟩) (2 + 2) cap) 4 (flatS (par08.take 4)) := hown6
      go_wp2_with fail
      go_roundw
      case rel => exact ⟨.inr (.inr (.inl ⟨rfl, hown7⟩)), hb6⟩
      case measure => simp [intOf]
    · -- round 2
      go_wp2_with fail
      go_region_held3 (fun W' => W'.cell? ⟨W4.heap.size, 0, none⟩ = some (.int .i64 0) ∧ W'.cell? ⟨W4.heap.size, 1, none⟩ = some (.int .i64 10))
          (first | exact ⟨c0, c1⟩ | exact ⟨d0, d1⟩ | exact ⟨e0, e1⟩ | exact ⟨cell_alloc_k _ e0, cell_alloc_k _ e1⟩ | exact ⟨(hgrow6.cell_far _ (by simp; omega) hnb).trans (cell_alloc_k _ e0), (hgrow6.cell_far _ (by simp; omega) hnb).trans (cell_alloc_k _ e1)⟩)
          (first | (go_at_call 57; (with_reducible refine (same_tk 0 9 _).mono ?_); rintro e wa ⟨rfl, hba⟩; have d0 := (hba.cell (p := ⟨W4.heap.size, 0, none⟩) (show W4.heap.size < wr.heap.size by omega)).trans c0; have d1 := (hba.cell (p := ⟨W4.heap.size, 1, none⟩) (show W4.heap.size < wr.heap.size by omega)).trans c1; have hza : wr.heap.size ≤ wa.heap.size := hba.size; skip) | (go_at_call 57; (with_reducible refine (same_tk 10 9 _).mono ?_); rintro e wb ⟨rfl, hbd⟩; have e0 := (hbd.cell (p := ⟨W4.heap.size, 0, none⟩) (show W4.heap.size < wa.heap.size by omega)).trans d0; have e1 := (hbd.cell (p := ⟨W4.heap.size, 1, none⟩) (show W4.heap.size < wa.heap.size by omega)).trans d1; have hzb : wa.heap.size ≤ wb.heap.size := hbd.size; have hq := (ownsRow_below (ownsRow_below hown.drew hba) hbd); skip) | (refine step_append_lies _ (by rfl) _ _ _ (by rfl) (W4.heap.size + 1) 23 i0 _ 2 16 Tryd.underlying27 hi hz0 hz1 hz2 rfl (by omega) u12 4 (flatS (par08.take 4)) (by rfl) (hq.alloc _) ⟨wb.heap.size, 0, none⟩ 2 2 [.int .i64 0, .int .i64 9, .int .i64 10, .int .i64 9] (by rfl) (by rfl) (World.news_of_block (cs := #[.int .i64 0, .int .i64 9, .int .i64 10, .int .i64 9]) (t := 23) (fr := (0, 0)) (heap_alloc_new wb _)) (by simp [Value.oneCell']) (by omega) (by simp [maxLen]) (by omega) (by simp; omega) (wb.heap.size + 1) (by simp) ?_; intro g cap w6 hown6 hgrow6 hat6 hlt6))
      have hb6 : Below (W4.heap.size + 1) W5 w6 := by
        have hb1 : Below (W4.heap.size + 1) W5 wa := hb.trans (Below.mono (show Below wr.heap.size wr wa from ⟨hba.os, hba.tape, hba.output, hba.size, hba.block⟩) (by omega))
        have hb2 := hb1.trans (hbd.mono (by omega))
        exact (hb2.alloc (by omega) _).trans (below_of_grown hgrow6 hne (by simp; omega))
      have hown7 : w6.ownsRow (W4.heap.size + 1) 23 2 (.slice (some ⟨g, 0, none⟩) (4 + 2) cap) 6 (flatS (par08.take 6)) := hown6
      go_wp2_with fail
      go_roundw
      case rel => exact ⟨.inr (.inr (.inr ⟨rfl, hown7⟩)), hb6⟩
      case measure => simp [intOf]
    · -- behind the last round
      go_wp2_with fail
      refine bodyPost_ret (v := .tuple #[u12, .int .i64 0]) (by simp [results, Tryd.results16, go_sem]) rfl ⟨⟨_, rfl, Spots_of_own hown (by decide)⟩, rb.trans (hb.mono (by omega))⟩
end Go.Proofs.YtnbdnnbeiohmgaaDoor
/- Literals of spots. -/
namespace Go.Proofs.YtnbdnnbeiohmgaaDoor
open Go.RowKit

theorem flatS_length (l : List (Int × Int)) : (flatS l).length = l.length * 2 := by
  induction l with
  | nil => rfl
  | cons a l ih => simp [flatS] at ih ⊢; omega

/-- a literal of spots, in a block of its own -/
theorem Spots_lit (w : World) (B n : Nat) (hB : w.heap.size = B) (cs : Array Value) (l : List (Int × Int)) (e : TypeId) (hc : cs.toList = flatS l) (hn : n = l.length) (hm : n ≤ maxLen) : Spots (w.alloc (.cells cs e)) (.slice (some ⟨B, 0, none⟩) n n) l := by
  subst hB
  have hs : cs.size = n * 2 := by rw [← Array.length_toList, hc, flatS_length, hn]
  have h := World.ownsRow_lit (base := 0) (e := e) (size := 2) w cs n (Nat.zero_le _) hm hs
  rw [hc] at h
  exact Spots_of_own h hn

end Go.Proofs.YtnbdnnbeiohmgaaDoor
/- alive: the chapter's first examples hold. -/
namespace Go.Proofs.YtnbdnnbeiohmgaaDoor
open Go.RowKit

def near08 : List (Int × Int) := [(0, 0), (4, 4)]
theorem near_08B : nearB near08 (4, 0) 3 = true := by decide +kernel
theorem near_08E : nearE near08 (4, 0) 3 = 0 := by decide +kernel

set_option maxRecDepth 100000 in
set_option maxHeartbeats 4000000 in
theorem alive_tk (w : World) : Calls Tryd.prog 6 #[] w fun e w' => e = .returned (.bool true) ∧ Below w.heap.size w w' := by
  go_enter Tryd.func6, Tryd.ntmps6
  go_wp2_with fail
  refine (length_08 _ _ (Spots_lit _ _ 3 (by simp) _ legs08 _ (by rfl) (by rfl) (by simp [maxLen]))).mono ?_
  rintro e w1 ⟨rfl, hb1⟩
  have B1 : Below w.heap.size w w1 := ((Below.refl w.heap.size w).alloc (Nat.le_refl _) _).trans (hb1.mono (by simp))
  clear hb1
  go_wp2_with fail
  refine (parallel_08 _).mono ?_
  rintro e w2 ⟨⟨v, rfl, hv⟩, hb2⟩
  have B2 : Below w.heap.size w w2 := B1.trans (hb2.mono B1.size)
  clear hb2
  go_wp2_with fail
  refine (near_all _ near08 4 0 3 _ (Spots_lit _ _ 2 (by simp) _ near08 _ (by rfl) (by rfl) (by simp [maxLen]))).mono ?_
  rintro e w3 ⟨rfl, hb3⟩
  rw [near_08B, near_08E]
  have hv3 : Spots w3 v par08 := (hv.alloc _).below hb3
  have B3 : Below w.heap.size w w3 := (B2.alloc B2.size _).trans (hb3.mono (by have := B2.size; simp; omega))
  clear hb3 hv
  go_wp2_with fail
  refine (equal_tk _ _ par08 _ (hv3.alloc _) (Spots_lit _ _ 6 (by simp) _ par08 _ (by rfl) (by rfl) (by simp [maxLen]))).mono ?_
  rintro e w4 ⟨rfl, hb4⟩
  have B4 : Below w.heap.size w w4 := (B3.alloc B3.size _).trans (hb4.mono (by have := B3.size; simp; omega))
  clear hb4 hv3
  go_wp2_with fail
  go_ret
  exact ⟨rfl, B4⟩
end Go.Proofs.YtnbdnnbeiohmgaaDoor
