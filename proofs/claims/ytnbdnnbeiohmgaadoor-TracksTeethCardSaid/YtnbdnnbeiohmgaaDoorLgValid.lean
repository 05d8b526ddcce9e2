/- The document's Grid and Valid, of a valid grid and two regions. -/
import Derived.Test.YtnbdnnbeiohmgaaDoorLgRef
import Derived.Deep.RegionHeld3
namespace Go.Proofs.YtnbdnnbeiohmgaaDoor
open Go.RowKit Go.Shelf

set_option maxRecDepth 100000 in
set_option maxHeartbeats 4000000 in
theorem grid_ref (W H S : Int) (vL : Value) (ld : List R3) (w : World) (hW : 1 ≤ W ∧ W ≤ 256) (hH : 1 ≤ H ∧ H ≤ 256) (hS : 1 ≤ S ∧ S ≤ 50000) (hL : Runs w vL ld) (hp : Proper W H ld) (hlen : ld.length ≤ 8192) :
    Calls Tryd.prog 68 #[.agg #[.int .i64 W, .int .i64 H, .int .i64 S, vL]] w fun e w' => e = .returned (.bool true) ∧ Below w.heap.size w w' := by
  have b1 : Below w.heap.size w (w.alloc (.cells #[.int .i64 W, .int .i64 H, .int .i64 S, vL] 37)) := (Below.refl w.heap.size w).alloc (Nat.le_refl _) _
  have HR := Lib.hid (rows_ref W H vL ld (w.alloc (.cells #[.int .i64 W, .int .i64 H, .int .i64 S, vL] 37)) hH (hL.below b1) hp hlen)
  obtain ⟨A, c, rfl, -⟩ := (show Runs w vL ld from hL)
  go_enter Tryd.func68, Tryd.ntmps68
  go_wp2_with fail
  refine (in_yes W 1 256 _ hW).mono ?_
  rintro e w2 ⟨rfl, rfl⟩
  go_wp2_with fail
  refine (in_yes H 1 256 _ hH).mono ?_
  rintro e w2 ⟨rfl, rfl⟩
  go_wp2_with fail
  refine (in_yes S 1 50000 _ hS).mono ?_
  rintro e w2 ⟨rfl, rfl⟩
  go_wp2_with fail
  refine HR.out.mono ?_
  rintro e w3 ⟨rfl, hb3⟩
  go_wp2_with fail
  go_ret
  exact ⟨rfl, b1.trans (hb3.mono b1.size)⟩

set_option maxRecDepth 100000 in
set_option maxHeartbeats 8000000 in
theorem valid_ref (W H S : Int) (vL v : Value) (ld : List R3) (vs : List Value) (ls : List (List R3)) (w : World) (hW : 1 ≤ W ∧ W ≤ 256) (hH : 1 ≤ H ∧ H ≤ 256) (hS : 1 ≤ S ∧ S ≤ 50000) (hL : Runs w vL ld) (hp : Proper W H ld) (hlen : ld.length ≤ 8192)
    (h : Lst 1 enc1 w v vs) (hl : vs.length = ls.length) (hrs : ∀ (i : Nat) u l, vs[i]? = some u → ls[i]? = some l → Runs w u l ∧ Proper W H l ∧ l.length ≤ 8192) :
    Calls Tryd.prog 51 #[.agg #[.int .i64 W, .int .i64 H, .int .i64 S, vL], v] w fun e w' => e = .returned (.bool true) ∧ Below w.heap.size w w' := by
  have b1 : Below w.heap.size w (w.alloc (.cells #[.int .i64 W, .int .i64 H, .int .i64 S, vL] 37)) := (Below.refl w.heap.size w).alloc (Nat.le_refl _) _
  have HG := Lib.hid (grid_ref W H S vL ld (w.alloc (.cells #[.int .i64 W, .int .i64 H, .int .i64 S, vL] 37)) hW hH hS (hL.below b1) hp hlen)
  obtain ⟨A, c, rfl, h1, h2, h3⟩ := h
  unfold maxLen at h2
  have H3 := Lib.hid h3
  have HRs := Lib.hid hrs
  clear h3 hrs
  obtain ⟨n, hn⟩ : ∃ n, vs.length = n := ⟨_, rfl⟩
  rw [hn] at h1 hl H3 ⊢
  go_enter Tryd.func51, Tryd.ntmps51
  go_wp2_with fail
  have c0 : (w.alloc (.cells #[.int .i64 W, .int .i64 H, .int .i64 S, vL] 37)).cell? ⟨w.heap.size, 0, none⟩ = some (.int .i64 W) := by simp [go_sem]
  have c1 : (w.alloc (.cells #[.int .i64 W, .int .i64 H, .int .i64 S, vL] 37)).cell? ⟨w.heap.size, 1, none⟩ = some (.int .i64 H) := by simp [go_sem]
  have z1 : (w.alloc (.cells #[.int .i64 W, .int .i64 H, .int .i64 S, vL] 37)).heap.size = w.heap.size + 1 := by simp
  obtain ⟨w1, hw1⟩ : ∃ w1, w.alloc (.cells #[.int .i64 W, .int .i64 H, .int .i64 S, vL] 37) = w1 := ⟨_, rfl⟩
  rw [hw1] at b1 c0 c1 z1 HG ⊢
  clear hw1
  obtain ⟨B, hB⟩ : ∃ B, w.heap.size = B := ⟨_, rfl⟩
  rw [hB] at b1 c0 c1 z1 ⊢
  refine HG.out.mono ?_
  rintro e w2 ⟨rfl, hb2⟩
  have c0 := (hb2.cell (p := ⟨B, 0, none⟩) (by show B < w1.heap.size; omega)).trans c0
  have c1 := (hb2.cell (p := ⟨B, 1, none⟩) (by show B < w1.heap.size; omega)).trans c1
  have b2 := b1.trans (hb2.mono (by omega))
  have z2 := hb2.size
  clear hb2 b1 HG
  go_wp2_with fail
  go_loopw [5, 6] (fun o i wr => o = .bool true ∧ ∃ k : Nat, k ≤ n ∧ i = .int .i64 k ∧ wr.cell? ⟨B, 0, none⟩ = some (.int .i64 W) ∧ wr.cell? ⟨B, 1, none⟩ = some (.int .i64 H) ∧ B < wr.heap.size ∧ Below B w wr) (fun _ i _ => n - (intOf i).toNat)
  case atStart => exact ⟨rfl, 0, Nat.zero_le _, rfl, c0, c1, by omega, b2⟩
  case round =>
    obtain ⟨rfl, k, hk, rfl, d0, d1, hz, hb⟩ := hrel
    clear c0 c1 b2 z1 z2
    by_cases hlt : k < n
    · obtain ⟨b, off, rfl, hbl, m⟩ := H3.out (by omega)
      obtain ⟨u, hu⟩ : ∃ u, vs[k]? = some u := ⟨_, List.getElem?_eq_getElem (by omega)⟩
      obtain ⟨l, hll⟩ : ∃ u, ls[k]? = some u := ⟨_, List.getElem?_eq_getElem (by omega)⟩
      have m0 := (hb.cell (p := ⟨b, off + k * 1 + 0, none⟩) (by show b < B; omega)).trans (m k 0 _ _ hu rfl)
      simp only [Nat.mul_one, Nat.add_zero] at m0
      obtain ⟨r1, r2, r3⟩ := HRs.out k u l hu hll
      have hk0 : (0 : Int) ≤ (k : Int) := by omega
      have hk1 : (k : Int) < (n : Int) := by omega
      have HRw := Lib.hid (fun w' (hb' : Below w.heap.size w w') => rows_ref W H u l w' hH (r1.below hb') r2 r3)
      have hbs : b < wr.heap.size := by have := hb.size; omega
      clear m hu hll r1 r2 r3
      go_wp2_with fail
      go_region_held3 (fun W' => W'.cell? ⟨B, 0, none⟩ = some (.int .i64 W) ∧ W'.cell? ⟨B, 1, none⟩ = some (.int .i64 H) ∧ W'.cell? ⟨b, off + k, none⟩ = some u)
        (first | exact ⟨d0, d1, m0⟩ | exact ⟨da0, da1, ma0⟩ | go_keep)
        (first | (go_at_call 69; (with_reducible refine (HRw.out _ (by rw [hB]; exact belowDrew hb)).mono ?_); rintro e wa ⟨rfl, hba⟩; have da0 := (hba.cell (p := ⟨B, 0, none⟩) hz).trans d0; have da1 := (hba.cell (p := ⟨B, 1, none⟩) hz).trans d1; have ma0 := (hba.cell (p := ⟨b, off + k, none⟩) hbs).trans m0; skip))
      rename_i hHeld
      clear hHeld
      have hba' : Below wr.heap.size wr wa := ⟨hba.os, hba.tape, hba.output, hba.size, hba.block⟩
      have hbw := hb.trans (hba'.mono (by omega))
      have hzw := hba'.size
      clear hba hba' hb d0 d1 m0 ma0
      go_wp2_with fail
      go_roundw
      case rel => exact ⟨rfl, k + 1, by omega, by go_num, da0, da1, by omega, hbw⟩
      case measure => simp [intOf]; omega
    · have hke : k = n := by omega
      subst hke
      go_wp2_with fail
      go_ret
      exact ⟨rfl, by first | exact hb | (rw [hB]; exact hb)⟩
end Go.Proofs.YtnbdnnbeiohmgaaDoor
