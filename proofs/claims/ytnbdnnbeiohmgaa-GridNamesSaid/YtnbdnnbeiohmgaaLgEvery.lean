/- The document's every: the cells of a grid. -/
import Derived.Test.YtnbdnnbeiohmgaaLgA
import Derived.Test.YtnbdnnbeiohmgaaGrCells
namespace Go.Proofs.Ytnbdnnbeiohmgaa
open Go.RowKit Go.Shelf

theorem encC_len (x : Int × Int) : (encC x).length = 2 := rfl
def rowEv (y : Nat) : Nat → List (Int × Int)
  | 0 => []
  | j + 1 => rowEv y j ++ [((j : Int), (y : Int))]
def everyL (W : Nat) : Nat → List (Int × Int)
  | 0 => []
  | k + 1 => everyL W k ++ rowEv k W
theorem rowEv_len (y : Nat) : ∀ n, (rowEv y n).length = n
  | 0 => rfl
  | n + 1 => by rw [rowEv, List.length_append, rowEv_len y n]; rfl
theorem everyL_len (W : Nat) : ∀ n, (everyL W n).length = n * W
  | 0 => by simp [everyL]
  | n + 1 => by rw [everyL, List.length_append, everyL_len W n, rowEv_len, Nat.add_mul]; omega
theorem mem_rowEv {y : Nat} {p q : Int} : ∀ {n : Nat}, (p, q) ∈ rowEv y n ↔ q = y ∧ 0 ≤ p ∧ p < n
  | 0 => by simp [rowEv] <;> omega
  | n + 1 => by
    rw [rowEv, List.mem_append, mem_rowEv]
    simp only [List.mem_singleton, Prod.mk.injEq]
    omega
theorem mem_everyL {W : Nat} {p q : Int} : ∀ {n : Nat}, (p, q) ∈ everyL W n ↔ (0 ≤ p ∧ p < W) ∧ 0 ≤ q ∧ q < n
  | 0 => by simp [everyL] <;> omega
  | n + 1 => by
    rw [everyL, List.mem_append, mem_everyL, mem_rowEv]
    omega

set_option maxRecDepth 100000 in
set_option maxHeartbeats 8000000 in
theorem every_ref (W H S : Int) (vL : Value) (w : World) (hW : 1 ≤ W ∧ W ≤ 256) (hH : 1 ≤ H ∧ H ≤ 256) :
    Calls Try.prog 115 #[.agg #[.int .i64 W, .int .i64 H, .int .i64 S, vL]] w fun e w' => (∃ v, e = .returned v ∧ Lst 2 encC w' v (everyL W.toNat H.toNat)) ∧ Below w.heap.size w w' := by
  go_enter Try.func115, Try.ntmps115
  go_wp2_with fail
  have b1 : Below w.heap.size w (w.alloc (.cells #[.int .i64 W, .int .i64 H, .int .i64 S, vL] 24)) := (Below.refl w.heap.size w).alloc (Nat.le_refl _) _
  have c0 : (w.alloc (.cells #[.int .i64 W, .int .i64 H, .int .i64 S, vL] 24)).cell? ⟨w.heap.size, 0, none⟩ = some (.int .i64 W) := by simp [go_sem]
  have c1 : (w.alloc (.cells #[.int .i64 W, .int .i64 H, .int .i64 S, vL] 24)).cell? ⟨w.heap.size, 1, none⟩ = some (.int .i64 H) := by simp [go_sem]
  have z1 : (w.alloc (.cells #[.int .i64 W, .int .i64 H, .int .i64 S, vL] 24)).heap.size = w.heap.size + 1 := by simp
  obtain ⟨w1, hw1⟩ : ∃ w1, w.alloc (.cells #[.int .i64 W, .int .i64 H, .int .i64 S, vL] 24) = w1 := ⟨_, rfl⟩
  rw [hw1] at b1 c0 c1 z1 ⊢
  clear hw1
  obtain ⟨B, hB⟩ : ∃ B, w.heap.size = B := ⟨_, rfl⟩
  rw [hB] at b1 c0 c1 z1 ⊢
  obtain ⟨nW, hnW⟩ : ∃ n : Nat, W = n := ⟨W.toNat, by omega⟩
  subst hnW
  have hWt : ((nW : Int)).toNat = nW := by omega
  have HWt := Lib.hid hWt
  clear hWt
  go_loopw [3, 4] (fun o i wr => ∃ k : Nat, (k : Int) ≤ H ∧ i = .int .i64 k ∧ wr.ownsRow (B + 1) 39 2 o (everyL nW k).length (flatE encC (everyL nW k)) ∧ wr.cell? ⟨B, 0, none⟩ = some (.int .i64 (nW : Int)) ∧ wr.cell? ⟨B, 1, none⟩ = some (.int .i64 H) ∧ Below B w wr ∧ B + 1 ≤ wr.heap.size) (fun _ i _ => H.toNat - (intOf i).toNat)
  case atStart => exact ⟨0, by simp; omega, rfl, World.ownsRow_nil _ _ _ _, c0, c1, b1, by omega⟩
  case round =>
    obtain ⟨k, hk, rfl, hown, d0, d1, hb, hz⟩ := hrel
    clear c0 c1 b1 z1
    by_cases hlt : (k : Int) < H
    · obtain ⟨L, hL⟩ : ∃ L, everyL nW k = L := ⟨_, rfl⟩
      have hLl : L.length ≤ 65536 := by
        rw [← hL, everyL_len]
        have := Nat.mul_le_mul (show k ≤ 256 by omega) (show nW ≤ 256 by omega)
        omega
      rw [hL] at hown
      have HL := Lib.hid hL
      clear hL
      have hB1 : B < wr.heap.size := by omega
      go_wp2_with fail
      go_loopw [3, 5] (fun o i wq => ∃ j : Nat, j ≤ nW ∧ i = .int .i64 j ∧ wq.ownsRow (B + 1) 39 2 o (L ++ rowEv k j).length (flatE encC (L ++ rowEv k j)) ∧ wq.cell? ⟨B, 0, none⟩ = some (.int .i64 (nW : Int)) ∧ wq.cell? ⟨B, 1, none⟩ = some (.int .i64 H) ∧ Below B w wq ∧ B + 1 ≤ wq.heap.size) (fun _ i _ => nW - (intOf i).toNat)
      case atStart => exact ⟨0, Nat.zero_le _, rfl, by simpa [rowEv] using hown, d0, d1, hb, hz⟩
      case round =>
        obtain ⟨j, hj, rfl, hown, d0, d1, hb, hz⟩ := hrel
        by_cases hjl : j < nW
        · have hjI : (j : Int) < (nW : Int) := by omega
          have hMl : (L ++ rowEv k j).length ≤ 65536 + 256 := by rw [List.length_append, rowEv_len]; omega
          obtain ⟨M, hM⟩ : ∃ M, L ++ rowEv k j = M := ⟨_, rfl⟩
          rw [hM] at hown hMl
          have HM := Lib.hid hM
          clear hM
          obtain ⟨i0, hi, hz0, hz1, hz2⟩ := info_parts infoC
          have hown4 := hown.alloc (.cells #[.int .i64 (j : Int), .int .i64 (k : Int)] 39)
          have hBq : B + 1 ≤ (wr.alloc (.cells #[.int .i64 (j : Int), .int .i64 (k : Int)] 39)).heap.size := by simp; omega
          have hB1 : B < wr.heap.size := by omega
          go_wp2_with (at_builtin; refine wpList_append_lies _ rfl _ _ _ rfl (B + 1) 39 i0 _ 2 16 Try.underlying36 hi hz0 hz1 hz2 rfl (by omega) u3 M.length (flatE encC M) rfl hown4 ⟨wr.heap.size, 0, none⟩ 1 1 [.int .i64 (j : Int), .int .i64 (k : Int)] rfl rfl (newsLit (cs := #[.int .i64 (j : Int), .int .i64 (k : Int)]) (by simp)) (by simp [Value.oneCell']) (by omega) (by unfold maxLen; omega) (by omega) hBq (wr.heap.size + 1) (by simp) ?_; intro gg cap5 w5 hown5 hgrow hat hlt5)
          have hob : ∀ g, u3.ownBlock = some g → B + 1 ≤ g ∧ g < wr.heap.size := fun g hg => ownBlock_lt hown hg
          have hb5 : Below B w w5 := (hb.alloc (by omega) _).grown hgrow (by simp; omega) (fun q hq => by have := (hob _ hq).1; omega)
          have hne5 : some B ≠ u3.ownBlock := fun e => by have := (hob _ e.symm).1; omega
          have d0 := (hgrow.cell_far ⟨B, 0, none⟩ (by simp; omega) hne5).trans ((World.cell?_alloc_lt wr _ ⟨B, 0, none⟩ hB1).trans d0)
          have d1 := (hgrow.cell_far ⟨B, 1, none⟩ (by simp; omega) hne5).trans ((World.cell?_alloc_lt wr _ ⟨B, 1, none⟩ hB1).trans d1)
          have hz5 : B + 1 ≤ w5.heap.size := by have := hgrow.size; simp at this; omega
          have hown5 : w5.ownsRow (B + 1) 39 2 (.slice (some ⟨gg, 0, none⟩) (M.length + 1) cap5) (L ++ rowEv k (j + 1)).length (flatE encC (L ++ rowEv k (j + 1))) := by rw [rowEv, ← List.append_assoc, HM.out, flatE_append, List.length_append]; exact hown5
          go_roundw
          case rel => exact ⟨j + 1, by omega, by go_num, hown5, d0, d1, hb5, hz5⟩
          case measure => simp [intOf]; omega
        · have hje : j = nW := by omega
          subst hje
          go_wp2_with fail
          go_roundw
          case rel => exact ⟨k + 1, by push_cast; omega, by go_num, by rw [everyL, HL.out]; exact hown, d0, d1, hb, hz⟩
          case measure => simp [intOf]; omega
    · have hke : (k : Int) = H := by omega
      have hkn : H.toNat = k := by omega
      have hfin := Lst_of_own encC_len hown rfl
      have HF := Lib.hid hfin
      have HK := Lib.hid hkn
      clear hown hfin hkn
      go_wp2_with fail
      go_ret
      exact ⟨⟨u3, rfl, by first | exact HF.out | (rw [HK.out]; exact HF.out)⟩, by first | exact hb | (rw [hB]; exact hb)⟩
end Go.Proofs.Ytnbdnnbeiohmgaa
