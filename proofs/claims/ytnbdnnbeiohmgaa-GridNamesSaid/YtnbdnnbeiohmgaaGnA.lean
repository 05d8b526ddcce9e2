/- the calls of the law GridNames: their results at the little grid. -/
import Derived.Test.YtnbdnnbeiohmgaaGsDraw
import Derived.Test.YtnbdnnbeiohmgaaGrAlive
import Derived.Test.YtnbdnnbeiohmgaaGrBack
import Derived.Test.YtnbdnnbeiohmgaaGrDisc
import Derived.Test.YtnbdnnbeiohmgaaGrHalf
import Derived.Test.YtnbdnnbeiohmgaaPtParts
namespace Go.Proofs.Ytnbdnnbeiohmgaa
open Go.RowKit Go.Shelf Go.Lib
attribute [local go_sem] Oper.semAt_some

theorem growN (vL v : Value) (w : World) (c : Int) (R0 : List R3) (b0 : Bool) (hL : Runs w vL [(0, 0, 2)]) (hv : Runs w v [(1, 1, 2)]) (hp : pushB c 0 c 0 = true)
    (hR0 : rowsR (growF 4 3 (leadOf 10 c 0 c 0) [(1, 1, 2)]) 256 = R0) (h8 : R0.length ≤ 8192) (hb : offL 4 3 (leadOf 10 c 0 c 0) [(1, 1, 2)] = b0) :
    Calls Try.prog 11 #[.agg #[.int .i64 4, .int .i64 3, .int .i64 10, vL], v, .agg #[.int .i64 c, .int .i64 0, .int .i64 c, .int .i64 0]] w fun e w' => (∃ v', e = .returned (.tuple #[v', .bool b0, .int .i64 0]) ∧ Runs w' v' R0) ∧ Below w.heap.size w w' := by
  refine (grow_gr 4 3 10 c 0 c 0 vL v [(0, 0, 2)] [(1, 1, 2)] w hL hv (by decide +kernel) hp).mono ?_
  rintro e w' ⟨⟨R, hR, v', rfl, hv'⟩, hb'⟩
  have hRe : R = R0 := by
    refine (hR.single (fun y hy => ?_)).trans hR0
    exact growF_len _ _ _ _ _
  subst hRe
  rw [if_pos h8, if_pos h8, hb] 
  rw [if_pos h8] at hv'
  exact ⟨⟨v', rfl, hv'⟩, hb'⟩
theorem backN (vL v : Value) (w : World) (hL : Runs w vL [(0, 0, 2)]) (hv : Runs w v [(1, 2, 3)]) :
    Calls Try.prog 16 #[.agg #[.int .i64 4, .int .i64 3, .int .i64 10, vL], v, .agg #[.int .i64 1, .int .i64 0, .int .i64 1, .int .i64 0]] w fun e w' => (∃ v', e = .returned (.tuple #[v', .int .i64 0]) ∧ Runs w' v' [(1, 1, 3)]) ∧ Below w.heap.size w w' := by
  refine (back_gr 4 3 10 1 0 1 0 vL v [(0, 0, 2)] [(1, 2, 3)] w hL hv (by decide +kernel) (by decide +kernel)).mono ?_
  rintro e w' ⟨⟨R, hR, v', rfl, hv'⟩, hb'⟩
  have hRe : R = [(1, 1, 3)] := by
    refine (hR.single (fun y hy => ?_)).trans ?_
    · exact growF_len _ _ _ _ _
    · decide +kernel
  subst hRe
  exact ⟨⟨v', rfl, hv'⟩, hb'⟩
theorem discN (vL : Value) (w : World) (q : Int) (R0 : List R3) (hL : Runs w vL [(0, 0, 2)]) (hok : (checkG 4 3 10 [(0, 0, 2)] && nearS (5, 5) && inB q 0 16777216) = true) (hR0 : rowsR (fillF 4 (discRow 10 5 5 q) 3) 256 = R0) :
    Calls Try.prog 27 #[.agg #[.int .i64 4, .int .i64 3, .int .i64 10, vL], .agg #[.int .i64 5, .int .i64 5], .int .i64 q] w fun e w' => (∃ v', e = .returned (.tuple #[v', .int .i64 0]) ∧ Runs w' v' R0) ∧ Below w.heap.size w w' := by
  refine (disc_gr 4 3 10 5 5 q vL [(0, 0, 2)] w hL).mono ?_
  rintro e w' ⟨⟨R, v', rfl, hv', hR⟩, hb'⟩
  have hRe : R = R0 := ((hR hok).single (fun y _ => fillF_len _ _ _ _)).trans hR0
  subst hRe
  rw [hok]
  exact ⟨⟨v', rfl, hv'⟩, hb'⟩
theorem halfN (vL : Value) (w : World) (hL : Runs w vL [(0, 0, 2)]) :
    Calls Try.prog 28 #[.agg #[.int .i64 4, .int .i64 3, .int .i64 10, vL], .agg #[.int .i64 0, .int .i64 15], .agg #[.int .i64 1, .int .i64 15]] w fun e w' => (∃ v', e = .returned (.tuple #[v', .int .i64 0]) ∧ Runs w' v' [(1, 0, 4), (2, 0, 4)]) ∧ Below w.heap.size w w' := by
  refine (half_gr 4 3 10 0 15 1 15 vL [(0, 0, 2)] w hL).mono ?_
  rintro e w' ⟨⟨R, v', rfl, hv', hR⟩, hb'⟩
  have hok : halfOK 4 3 10 [(0, 0, 2)] (0, 15) (1, 15) = true := by decide +kernel
  have hRe : R = [(1, 0, 4), (2, 0, 4)] := ((hR hok).single (fun y _ => fillF_len _ _ _ _)).trans (by decide +kernel)
  subst hRe
  rw [hok]
  exact ⟨⟨v', rfl, hv'⟩, hb'⟩
theorem partsN (vL v : Value) (w : World) (hL : Runs w vL [(0, 0, 2)]) (hv : Runs w v [(1, 0, 1), (1, 2, 3), (2, 2, 3)]) :
    Calls Try.prog 37 #[.agg #[.int .i64 4, .int .i64 3, .int .i64 10, vL], v] w fun e w' => ∃ v' u1 u2, e = .returned (.tuple #[v', .int .i64 0]) ∧ Lst 1 enc1 w' v' [u1, u2] ∧ Runs w' u1 [(1, 0, 1)] ∧ Below w.heap.size w w' := by
  refine (parts_gr 4 3 10 vL v [(0, 0, 2)] [(1, 0, 1), (1, 2, 3), (2, 2, 3)] w hL hv (by decide +kernel) (by decide +kernel) (by decide)).mono ?_
  rintro e w' ⟨v', us, rfl, hl, hlen, hu, hb⟩
  have h2 : (partsL (cellsL [(1, 0, 1), (1, 2, 3), (2, 2, 3)])) = [[(0, 1)], [(2, 1), (2, 2)]] := by decide +kernel
  rw [h2] at hlen hu
  match us, hlen with
  | [u1, u2], _ =>
    have h := hu 0 u1 [(0, 1)] rfl rfl
    rw [show refR (inC [(0, 1)]) (4 : Int).toNat (3 : Int).toNat = [(1, 0, 1)] by decide +kernel] at h
    exact ⟨v', u1, u2, rfl, hl, h, hb⟩
theorem shoreN (vL : Value) (w : World) (hL : Runs w vL [(0, 0, 2)]) :
    Calls Try.prog 38 #[.agg #[.int .i64 4, .int .i64 3, .int .i64 10, vL]] w fun e w' => (∃ v', e = .returned (.tuple #[v', .int .i64 0]) ∧ Runs w' v' [(0, 2, 3), (1, 0, 2)]) ∧ Below w.heap.size w w' := by
  have h := shore_gr 4 3 10 vL [(0, 0, 2)] w hL (by decide +kernel) (by decide +kernel) (by decide)
  rw [show refR (shoreB (inC (cellsL [(0, 0, 2)]))) (4 : Int).toNat (3 : Int).toNat = [(0, 2, 3), (1, 0, 2)] by decide +kernel] at h
  exact h
theorem drawN_pic : drawL (4 : Int).toNat (3 : Int).toNat (cellsL [(0, 0, 2)]) (cellsL [(0, 1, 3)]) = [46, 46, 46, 46, 10, 46, 46, 46, 46, 10, 94, 64, 35, 46, 10] := by decide +kernel
theorem drawN (vL v : Value) (w : World) (hL : Runs w vL [(0, 0, 2)]) (hv : Runs w v [(0, 1, 3)]) :
    Calls Try.prog 42 #[.agg #[.int .i64 4, .int .i64 3, .int .i64 10, vL], v] w fun e w' => e = .returned (.string ⟨#[46, 46, 46, 46, 10, 46, 46, 46, 46, 10, 94, 64, 35, 46, 10]⟩) ∧ Below w.heap.size w w' := by
  have h := draw_gr 4 3 10 vL v [(0, 0, 2)] [(0, 1, 3)] w hL hv (by decide +kernel)
  rw [drawN_pic] at h
  exact h
theorem cellN_a : cellV 4 3 10 [(0, 0, 2)] (40, 0) = ((0, 0), 7) := by decide +kernel
theorem cellN_b : cellV 4 3 10 [(0, 0, 2)] (-1, 5) = ((0, 0), 7) := by decide +kernel
end Go.Proofs.Ytnbdnnbeiohmgaa
