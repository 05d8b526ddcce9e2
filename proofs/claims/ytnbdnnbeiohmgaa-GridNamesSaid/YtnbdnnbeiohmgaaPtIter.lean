/- the iterator over a region's cells, of cells of a kind. Printed by wip/mk_ptiter.py. -/
import Derived.RangeFuncNested
import Derived.RangeFuncBound
import Derived.RangeFuncCalls
import Derived.RangeFuncLeaves
import Derived.Shelf.Abstract
import Derived.Shelf.RegionOpen
import Derived.WalkKit
import Derived.OwnWalkIn
import Derived.TacticsInMore
import Derived.LoopNIn
import Derived.LoopIn
import Derived.Test.YtnbdnnbeiohmgaaPtReg
import Derived.Test.YtnbdnnbeiohmgaaPtPlain
import Derived.Test.YtnbdnnbeiohmgaaGrCells
import Derived.Maps.AppendAt
import Derived.Below
import Derived.Lib.Hide
import Derived.ProofKit
namespace Go.Proofs.Ytnbdnnbeiohmgaa
open Go.RowKit Go.Shelf Go.Lib
attribute [local go_sem] Oper.semAt_some

set_option maxRecDepth 100000 in
set_option maxHeartbeats 4000000 in
theorem cells1P_in (F : Fence) (n : Nat) (hf : F.fn 109) (hro : F.round = none) (hn : 1 ≤ n) (l Br n₀ nl c : Nat) (A : Option Addr) (ld : List R3) (hnl : ld.length = nl) (hbd : ∀ r ∈ ld, 0 ≤ r.2.1 ∧ r.2.2 ≤ 256) (hcap : nl ≤ 9223372036854775807)
    (P : Int × Int → Prop) (hP : ∀ c ∈ cellsL ld, P c) (J Jx : List (Int × Int) → World → Prop) (W : World) (hJ : AbidesFrom W.heap.size J)
    (hY : ∀ pre x W, P x → J pre W → pre.length < 256 * nl → YieldAt F (n - 1) Try.prog l #[.agg #[.int .i64 x.1, .int .i64 x.2]] W fun e W' =>
      (e = .returned (.bool true) ∧ J (pre ++ [x]) W' ∧ KpR n₀ W W') ∨ (e = .returned (.bool false) ∧ Jx (pre ++ [x]) W'))
    (hn₀ : n₀ ≤ W.heap.size) (hBr : W.cell? ⟨Br, 0, none⟩ = some (.slice A nl c))
    (hA : ∀ k r, ld[k]? = some r → ∃ b off, A = some ⟨b, off, none⟩ ∧ b < n₀ ∧ W.cell? ⟨b, off + k * 3, none⟩ = some (.int .i64 r.1) ∧ W.cell? ⟨b, off + k * 3 + 1, none⟩ = some (.int .i64 r.2.1) ∧ W.cell? ⟨b, off + k * 3 + 2, none⟩ = some (.int .i64 r.2.2))
    (h0 : J [] W) :
    CallsIn F n Try.prog 109 #[.func (.yield l) #[] #[], .pointer (some ⟨Br, 0, none⟩)] W fun e W' => (∃ v, e = .returned v) ∧
      ((∃ ys, ys = cellsL ld ∧ J ys W') ∨ (∃ pre, True ∧ Jx pre W')) := by
  refine callsIn_of_wp Try.func109 rfl hf ?_ hro
  simp only [Try.ntmps109, List.size_toArray, List.length_cons, List.length_nil, Nat.reduceAdd, Nat.reduceSub, Array.replicate_succ, Array.replicate_zero, List.push_toArray, List.append_toArray, List.nil_append, List.cons_append]
  gi_wp2
  gi_loopw [8] (fun i wr => ∃ k : Nat, k ≤ nl ∧ i = .int .i64 k ∧ J (cellsL (ld.take k)) wr ∧ Below n₀ W wr ∧ W.heap.size ≤ wr.heap.size)
    (fun i _ => nl - (intOf i).toNat)
  case atStart => exact ⟨0, Nat.zero_le _, rfl, h0, Below.refl _ _, Nat.le_refl _⟩
  case round =>
    obtain ⟨k, hk, rfl, hJs, hnx, hsz⟩ := hrel
    by_cases hlt : k < nl
    · obtain ⟨⟨y, f, t⟩, hr⟩ : ∃ r, ld[k]? = some r := ⟨_, List.getElem?_eq_getElem (by omega)⟩
      obtain ⟨b, off, rfl, hb, c0, c1, c2⟩ := hA k _ hr
      have hbd' := hbd _ (List.mem_of_getElem? hr)
      have c0 := (hnx.cell (p := ⟨b, off + k * 3, none⟩) hb).trans c0
      have c1 := (hnx.cell (p := ⟨b, off + k * 3 + 1, none⟩) hb).trans c1
      have c2 := (hnx.cell (p := ⟨b, off + k * 3 + 2, none⟩) hb).trans c2
      gi_wp2
      have hx := World.alloc_heap_new wr (.cells #[.int .i64 y, .int .i64 f, .int .i64 t] 72)
      have hJx := hJ _ wr (wr.alloc (.cells #[.int .i64 y, .int .i64 f, .int .i64 t] 72)) none hJs (World.grownBy_alloc wr _ none) (fun r e => by cases e)
      have hnx := hnx.alloc (Nat.le_trans hn₀ hsz) (.cells #[.int .i64 y, .int .i64 f, .int .i64 t] 72)
      have hsz1 : W.heap.size ≤ (wr.alloc (.cells #[.int .i64 y, .int .i64 f, .int .i64 t] 72)).heap.size := by simp; omega
      obtain ⟨X, hX⟩ : ∃ X, wr.heap.size = X := ⟨_, rfl⟩
      obtain ⟨w1, hw1⟩ : ∃ w1, wr.alloc (.cells #[.int .i64 y, .int .i64 f, .int .i64 t] 72) = w1 := ⟨_, rfl⟩
      rw [hX] at hx ⊢
      rw [hw1] at hx hJx hnx hsz1 ⊢
      clear hw1 c0 c1 c2
      gi_loopw [5] (fun i wi => ∃ j : Nat, i = .int .i64 (f + j) ∧ (0 < j → f + j ≤ t) ∧ J (cellsL (ld.take k) ++ rowC (y, f, t) j) wi ∧ Below n₀ W wi ∧ W.heap.size ≤ wi.heap.size ∧ wi.heap[X]? = some (.cells #[.int .i64 y, .int .i64 f, .int .i64 t] 72 (0, 0)))
        (fun i _ => (t - intOf i).toNat)
      case atStart => exact ⟨0, by simp, by simp, by simpa [rowC] using hJx, hnx, hsz1, hx⟩
      case round =>
        obtain ⟨j, rfl, hj, hJj, hnj, hszj, hxj⟩ := hrel
        have d0 : wr.cell? ⟨X, 0, none⟩ = some (.int .i64 y) := by simp [World.cell?, hxj]
        have d2 : wr.cell? ⟨X, 2, none⟩ = some (.int .i64 t) := by simp [World.cell?, hxj]
        by_cases hlj : f + (j : Int) < t
        · have hN : (cellsL (ld.take k) ++ rowC (y, f, t) j).length < 256 * nl := by
            have h1 := cellsL_len (ld.take k) (fun r hr => hbd r (List.mem_of_mem_take hr))
            rw [List.length_append, rowC_len]
            rw [List.length_take, hnl] at h1
            try dsimp only at hbd'
            omega
          have hPx : P (f + (j : Int), y) := hP _ (List.mem_flatMap.2 ⟨(y, f, t), List.mem_of_getElem? hr, List.mem_map.2 ⟨j, List.mem_range.2 (by dsimp only; omega), rfl⟩⟩)
          obtain ⟨fn, tmps, assign, body, hy, hR⟩ := hY _ (f + (j : Int), y) wr hPx hJj hN
          dsimp only at hy
          try dsimp only at hbd'
          gi_wp2
          refine hR.mono ?_
          rintro e W3 (⟨rfl, hJ3, hk3⟩ | ⟨rfl, hJx3⟩)
          · have hx3 := hk3.2 _ _ _ hxj
            have d2 : W3.cell? ⟨X, 2, none⟩ = some (.int .i64 t) := by simp [World.cell?, hx3]
            gi_wp2
            go_roundw
            case rel => exact ⟨j + 1, by go_num, by omega, by rw [rowC_succ, ← List.append_assoc]; exact hJ3, hnj.trans hk3.1, Nat.le_trans hszj hk3.1.size, hx3⟩
            case measure => simp [intOf]; omega
          · gi_wp2
            refine bodyPost_ret (results_none rfl _ _ _) rfl ?_
            exact ⟨⟨_, rfl⟩, .inr ⟨_, trivial, hJx3⟩⟩
        · gi_wp2
          go_roundw
          case rel =>
            refine ⟨k + 1, by omega, by go_num, ?_, hnj, hszj⟩
            rw [cellsL_take hr]
            have e : cellsR (y, f, t) = rowC (y, f, t) j := by
              unfold cellsR
              try dsimp only at hbd' ⊢
              congr 1
              omega
            rw [e]
            exact hJj
          case measure => simp [intOf]; omega
    · obtain rfl : k = nl := by omega
      gi_wp2
      go_end0
      exact ⟨⟨_, rfl⟩, .inl ⟨_, rfl, by rwa [List.take_of_length_le (by omega)] at hJs⟩⟩

/-- .. of cells of a kind -/
theorem cellsP_stops (P : Int × Int → Prop) (F : Fence) (n : Nat) (hf : F.fn 109) (hro : F.round = none) (hn : 1 ≤ n) (Br n₀ nl c : Nat) (A : Option Addr) (ld : List R3) (hP : ∀ c ∈ cellsL ld, P c) (hnl : ld.length = nl) (hbd : ∀ r ∈ ld, 0 ≤ r.2.1 ∧ r.2.2 ≤ 256) (hcap : nl ≤ 9223372036854775807)
    (w : World) (hBl : Br < w.heap.size) (hn₀ : n₀ ≤ w.heap.size) (hBr : w.cell? ⟨Br, 0, none⟩ = some (.slice A nl c))
    (hA : ∀ k r, ld[k]? = some r → ∃ b off, A = some ⟨b, off, none⟩ ∧ b < n₀ ∧ w.cell? ⟨b, off + k * 3, none⟩ = some (.int .i64 r.1) ∧ w.cell? ⟨b, off + k * 3 + 1, none⟩ = some (.int .i64 r.2.1) ∧ w.cell? ⟨b, off + k * 3 + 2, none⟩ = some (.int .i64 r.2.2)) :
    SeqStopsK F n Try.prog 109 #[.pointer (some ⟨Br, 0, none⟩)] (fun x : { c : Int × Int // P c } => #[.agg #[.int .i64 x.1.1, .int .i64 x.1.2]]) (KpR n₀) (fun ys => ys.map (·.1) = cellsL ld) (fun _ => True) (256 * nl) w := fun l J Jx W hW hJ _ hY h0 =>
  (cells1P_in F n hf hro hn l Br n₀ nl c A ld hnl hbd hcap P hP (fun pre W => ∃ ys : List { c : Int × Int // P c }, ys.map (·.1) = pre ∧ J ys W) (fun pre W => ∃ ys : List { c : Int × Int // P c }, ys.map (·.1) = pre ∧ Jx ys W) W
    (fun pre X Y row ⟨ys, e, h⟩ hg hr => ⟨ys, e, hJ ys X Y row h hg hr⟩)
    (fun pre x W hx hJ hl => by
      obtain ⟨ys, rfl, hJ⟩ := hJ
      obtain ⟨fn, tmps, assign, body, hy, hR⟩ := hY ys ⟨x, hx⟩ W hJ (by simpa using hl)
      refine ⟨fn, tmps, assign, body, hy, hR.mono ?_⟩
      rintro e W' (⟨h1, h2, h3⟩ | ⟨h1, h2⟩)
      · exact .inl ⟨h1, ⟨_, by simp, h2⟩, h3⟩
      · exact .inr ⟨h1, ⟨_, by simp, h2⟩⟩) (Nat.le_trans hn₀ hW.size) ((hW.cell (p := ⟨Br, 0, none⟩) hBl).trans hBr)
    (fun k r hr => by
      obtain ⟨b, off, e, hb, h1, h2, h3⟩ := hA k r hr
      exact ⟨b, off, e, hb, (hW.cell (p := ⟨b, off + k * 3, none⟩) (show b < w.heap.size by omega)).trans h1, (hW.cell (p := ⟨b, off + k * 3 + 1, none⟩) (show b < w.heap.size by omega)).trans h2, (hW.cell (p := ⟨b, off + k * 3 + 2, none⟩) (show b < w.heap.size by omega)).trans h3⟩) ⟨[], rfl, h0⟩).mono fun e W' ⟨h1, h2⟩ => ⟨h1, by
    rcases h2 with ⟨ys, rfl, zs, hz, hJ⟩ | ⟨pre, _, zs, -, hJ⟩
    · exact .inl ⟨zs, hz, hJ⟩
    · exact .inr ⟨zs, trivial, hJ⟩⟩
end Go.Proofs.Ytnbdnnbeiohmgaa
