/- drift: right, at. -/
import Derived.Test.YtnbdnnbeiohmgaaDnB
import Derived.Deep.RegionHeld3
namespace Go.Proofs.Ytnbdnnbeiohmgaa
open Go.RowKit Go.Shelf Go.Lib
attribute [local go_sem] Oper.semAt_some

theorem index_flowsN (i : Nat) (hi : i < 2) (w : World) : (Instr.index 245 (.agg #[.slice none 0 0, .slice none 0 0]) (.int .i64 i)).run Try.prog w = .ok (.slice none 0 0) w := by
  obtain rfl | rfl : i = 0 ∨ i = 1 := by omega
  · show (Instr.index 245 (.agg #[.slice none 0 0, .slice none 0 0]) (.int .i64 0)).run Try.prog w = .ok (.slice none 0 0) w
    kernel_rfl
  · show (Instr.index 245 (.agg #[.slice none 0 0, .slice none 0 0]) (.int .i64 1)).run Try.prog w = .ok (.slice none 0 0) w
    kernel_rfl

set_option maxRecDepth 100000 in
set_option maxHeartbeats 4000000 in
/-- no flows are valid -/
theorem checkFlows_nil (L : Option Addr) (lc : Nat) (w : World) (hL : Runs w (.slice L 5 lc) landB) :
    Calls Try.prog 131 #[.agg #[.int .i64 5, .int .i64 5, .int .i64 100, .slice L 5 lc], .agg #[.slice none 0 0, .slice none 0 0]] w fun e w' => e = .returned (.int .i64 0) ∧ Below w.heap.size w w' := by
  have k0 : Below w.heap.size w ((w.alloc (.cells #[.int .i64 5, .int .i64 5, .int .i64 100, .slice L 5 lc] 24)).alloc (.cells #[.slice none 0 0, .slice none 0 0] 80)) := ((Below.refl _ _).alloc (Nat.le_refl _) _).alloc (by simp) _
  have hchk := checkGrid_gr 5 5 100 (.slice L 5 lc) landB _ (hL.below k0)
  rw [bay_grid, argE_true] at hchk
  have f0 : ((w.alloc (.cells #[.int .i64 5, .int .i64 5, .int .i64 100, .slice L 5 lc] 24)).alloc (.cells #[.slice none 0 0, .slice none 0 0] 80)).cell? ⟨w.heap.size + 1, 0, none⟩ = some (.slice none 0 0) := by simp [go_sem]
  have f1 : ((w.alloc (.cells #[.int .i64 5, .int .i64 5, .int .i64 100, .slice L 5 lc] 24)).alloc (.cells #[.slice none 0 0, .slice none 0 0] 80)).cell? ⟨w.heap.size + 1, 1, none⟩ = some (.slice none 0 0) := by simp [go_sem]
  have s0 : w.heap.size + 1 < ((w.alloc (.cells #[.int .i64 5, .int .i64 5, .int .i64 100, .slice L 5 lc] 24)).alloc (.cells #[.slice none 0 0, .slice none 0 0] 80)).heap.size := by simp
  have HC := Lib.hid hchk
  have HK := Lib.hid k0
  clear hchk k0 hL
  go_enter Try.func131, Try.ntmps131
  go_wp2_with fail
  refine HC.out.mono ?_
  rintro e w1 ⟨rfl, hb1⟩
  have f0 := (hb1.cell (p := ⟨w.heap.size + 1, 0, none⟩) s0).trans f0
  have f1 := (hb1.cell (p := ⟨w.heap.size + 1, 1, none⟩) s0).trans f1
  have HK1 := Lib.hid (HK.out.trans (hb1.mono (by have := HK.out.size; omega)))
  clear HK hb1 s0 HC
  go_wp2_with fail
  go_loopw [15] (fun i wr => ∃ k : Nat, k ≤ 2 ∧ i = .int .i64 k ∧ Below w1.heap.size w1 wr) (fun i _ => 2 - (intOf i).toNat)
  case atStart => exact ⟨0, by omega, rfl, Below.refl _ _⟩
  case round =>
    obtain ⟨k, hk, rfl, hbr⟩ := hrel
    by_cases hlt : k < 2
    · have hi := index_flowsN k hlt wr
      have HR := Lib.hid hbr
      clear hbr
      have hw := wrapId ((k : Int) + 1) (by omega) (by omega)
      go_wp2_with fail
      refine (hasFlow_none _ _ _ _).mono ?_
      rintro e w2 ⟨rfl, rfl⟩
      go_wp2_with fail
      go_roundw
      case rel => exact ⟨k + 1, by omega, by simp, HR.out⟩
      case measure => simp [intOf]; omega
    · obtain rfl : k = 2 := by omega
      have HR := Lib.hid hbr
      clear hbr
      go_wp2_with fail
      go_ret
      exact ⟨rfl, HK1.out.trans (HR.out.mono HK1.out.size)⟩

set_option maxRecDepth 100000 in
set_option maxHeartbeats 4000000 in
theorem right_dn (L A : Option Addr) (lc b1 b2 c : Nat) (t : Int) (w : World) (hB : Bay w L lc b1 b2 A c) (ht : inB t 1 43200 = true) :
    Calls Try.prog 95 #[.agg #[.int .i64 5, .int .i64 5, .int .i64 100, .slice L 5 lc, .slice (some ⟨b1, 0, none⟩) 1 1, .slice (some ⟨b2, 0, none⟩) 1 1, .int .i64 20, .int .i64 20, .int .i64 10, .int .i64 20, .bool false], .int .i64 t] w fun e w' => e = .returned (.bool true) ∧ Below w.heap.size w w' := by
  have b0 : Below w.heap.size w (w.alloc (.cells #[.int .i64 5, .int .i64 5, .int .i64 100, .slice L 5 lc, .slice (some ⟨b1, 0, none⟩) 1 1, .slice (some ⟨b2, 0, none⟩) 1 1, .int .i64 20, .int .i64 20, .int .i64 10, .int .i64 20, .bool false] 165)) := (Below.refl _ _).alloc (Nat.le_refl _) _
  have s0 : w.heap.size < (w.alloc (.cells #[.int .i64 5, .int .i64 5, .int .i64 100, .slice L 5 lc, .slice (some ⟨b1, 0, none⟩) 1 1, .slice (some ⟨b2, 0, none⟩) 1 1, .int .i64 20, .int .i64 20, .int .i64 10, .int .i64 20, .bool false] 165)).heap.size := by simp
  obtain ⟨w0, hw0⟩ : ∃ W', w.alloc (.cells #[.int .i64 5, .int .i64 5, .int .i64 100, .slice L 5 lc, .slice (some ⟨b1, 0, none⟩) 1 1, .slice (some ⟨b2, 0, none⟩) 1 1, .int .i64 20, .int .i64 20, .int .i64 10, .int .i64 20, .bool false] 165) = W' := ⟨_, rfl⟩
  obtain ⟨Z, hZ⟩ : ∃ Z, w.heap.size = Z := ⟨_, rfl⟩
  have d0 : w0.cell? ⟨Z, 0, none⟩ = some (.int .i64 5) := by rw [← hw0, ← hZ]; simp [go_sem]
  have d1 : w0.cell? ⟨Z, 1, none⟩ = some (.int .i64 5) := by rw [← hw0, ← hZ]; simp [go_sem]
  have d2 : w0.cell? ⟨Z, 2, none⟩ = some (.int .i64 100) := by rw [← hw0, ← hZ]; simp [go_sem]
  have d3 : w0.cell? ⟨Z, 3, none⟩ = some (.slice L 5 lc) := by rw [← hw0, ← hZ]; simp [go_sem]
  have d4 : w0.cell? ⟨Z, 4, none⟩ = some (.slice (some ⟨b1, 0, none⟩) 1 1) := by rw [← hw0, ← hZ]; simp [go_sem]
  have d5 : w0.cell? ⟨Z, 5, none⟩ = some (.slice (some ⟨b2, 0, none⟩) 1 1) := by rw [← hw0, ← hZ]; simp [go_sem]
  have d6 : w0.cell? ⟨Z, 6, none⟩ = some (.int .i64 20) := by rw [← hw0, ← hZ]; simp [go_sem]
  have d7 : w0.cell? ⟨Z, 7, none⟩ = some (.int .i64 20) := by rw [← hw0, ← hZ]; simp [go_sem]
  have d8 : w0.cell? ⟨Z, 8, none⟩ = some (.int .i64 10) := by rw [← hw0, ← hZ]; simp [go_sem]
  have d9 : w0.cell? ⟨Z, 9, none⟩ = some (.int .i64 20) := by rw [← hw0, ← hZ]; simp [go_sem]
  have d10 : w0.cell? ⟨Z, 10, none⟩ = some (.bool false) := by rw [← hw0, ← hZ]; simp [go_sem]
  rw [hw0] at b0 s0
  rw [hZ] at s0
  have HC := Lib.hid (checkFlows_dn L A lc b1 b2 c w0 (hB.below b0))
  have HK := Lib.hid b0
  have HT := Lib.hid ht
  clear b0 hB ht
  go_enter Try.func95, Try.ntmps95
  go_upto_region 1 with fail
  (try rw [hw0]); (try rw [hZ])
  have HZ := Lib.hid hZ
  clear hw0 hZ
  go_wp2_with fail
  refine HC.out.mono ?_
  rintro e w1 ⟨rfl, hb1⟩
  have d0 := (hb1.cell (p := ⟨Z, 0, none⟩) (by show Z < _; omega)).trans d0
  have d1 := (hb1.cell (p := ⟨Z, 1, none⟩) (by show Z < _; omega)).trans d1
  have d2 := (hb1.cell (p := ⟨Z, 2, none⟩) (by show Z < _; omega)).trans d2
  have d3 := (hb1.cell (p := ⟨Z, 3, none⟩) (by show Z < _; omega)).trans d3
  have d4 := (hb1.cell (p := ⟨Z, 4, none⟩) (by show Z < _; omega)).trans d4
  have d5 := (hb1.cell (p := ⟨Z, 5, none⟩) (by show Z < _; omega)).trans d5
  have d6 := (hb1.cell (p := ⟨Z, 6, none⟩) (by show Z < _; omega)).trans d6
  have d7 := (hb1.cell (p := ⟨Z, 7, none⟩) (by show Z < _; omega)).trans d7
  have d8 := (hb1.cell (p := ⟨Z, 8, none⟩) (by show Z < _; omega)).trans d8
  have d9 := (hb1.cell (p := ⟨Z, 9, none⟩) (by show Z < _; omega)).trans d9
  have d10 := (hb1.cell (p := ⟨Z, 10, none⟩) (by show Z < _; omega)).trans d10
  have HK1 := Lib.hid (HK.out.trans (hb1.mono HK.out.size))
  clear hb1 HK
  go_wp2_with fail
  refine (checkDrifter_dn _).mono ?_
  rintro e w2 ⟨rfl, hb2⟩
  have HK2 := Lib.hid (HK1.out.trans (hb2.mono HK1.out.size))
  clear hb2 HK1
  go_wp2_with fail
  refine (within_dn _ _ _ _).mono ?_
  rintro e w3 ⟨rfl, rfl⟩
  rw [HT.out]
  go_wp2_with fail
  go_ret
  exact ⟨rfl, HK2.out⟩

set_option maxRecDepth 100000 in
set_option maxHeartbeats 4000000 in
/-- right, with no flows -/
theorem right_nil (L : Option Addr) (lc : Nat) (t : Int) (w : World) (hL : Runs w (.slice L 5 lc) landB) (ht : inB t 1 43200 = true) :
    Calls Try.prog 95 #[.agg #[.int .i64 5, .int .i64 5, .int .i64 100, .slice L 5 lc, .slice none 0 0, .slice none 0 0, .int .i64 20, .int .i64 20, .int .i64 10, .int .i64 20, .bool false], .int .i64 t] w fun e w' => e = .returned (.bool true) ∧ Below w.heap.size w w' := by
  have b0 : Below w.heap.size w (w.alloc (.cells #[.int .i64 5, .int .i64 5, .int .i64 100, .slice L 5 lc, .slice none 0 0, .slice none 0 0, .int .i64 20, .int .i64 20, .int .i64 10, .int .i64 20, .bool false] 165)) := (Below.refl _ _).alloc (Nat.le_refl _) _
  have s0 : w.heap.size < (w.alloc (.cells #[.int .i64 5, .int .i64 5, .int .i64 100, .slice L 5 lc, .slice none 0 0, .slice none 0 0, .int .i64 20, .int .i64 20, .int .i64 10, .int .i64 20, .bool false] 165)).heap.size := by simp
  obtain ⟨w0, hw0⟩ : ∃ W', w.alloc (.cells #[.int .i64 5, .int .i64 5, .int .i64 100, .slice L 5 lc, .slice none 0 0, .slice none 0 0, .int .i64 20, .int .i64 20, .int .i64 10, .int .i64 20, .bool false] 165) = W' := ⟨_, rfl⟩
  obtain ⟨Z, hZ⟩ : ∃ Z, w.heap.size = Z := ⟨_, rfl⟩
  have d0 : w0.cell? ⟨Z, 0, none⟩ = some (.int .i64 5) := by rw [← hw0, ← hZ]; simp [go_sem]
  have d1 : w0.cell? ⟨Z, 1, none⟩ = some (.int .i64 5) := by rw [← hw0, ← hZ]; simp [go_sem]
  have d2 : w0.cell? ⟨Z, 2, none⟩ = some (.int .i64 100) := by rw [← hw0, ← hZ]; simp [go_sem]
  have d3 : w0.cell? ⟨Z, 3, none⟩ = some (.slice L 5 lc) := by rw [← hw0, ← hZ]; simp [go_sem]
  have d4 : w0.cell? ⟨Z, 4, none⟩ = some (.slice none 0 0) := by rw [← hw0, ← hZ]; simp [go_sem]
  have d5 : w0.cell? ⟨Z, 5, none⟩ = some (.slice none 0 0) := by rw [← hw0, ← hZ]; simp [go_sem]
  have d6 : w0.cell? ⟨Z, 6, none⟩ = some (.int .i64 20) := by rw [← hw0, ← hZ]; simp [go_sem]
  have d7 : w0.cell? ⟨Z, 7, none⟩ = some (.int .i64 20) := by rw [← hw0, ← hZ]; simp [go_sem]
  have d8 : w0.cell? ⟨Z, 8, none⟩ = some (.int .i64 10) := by rw [← hw0, ← hZ]; simp [go_sem]
  have d9 : w0.cell? ⟨Z, 9, none⟩ = some (.int .i64 20) := by rw [← hw0, ← hZ]; simp [go_sem]
  have d10 : w0.cell? ⟨Z, 10, none⟩ = some (.bool false) := by rw [← hw0, ← hZ]; simp [go_sem]
  rw [hw0] at b0 s0
  rw [hZ] at s0
  have HC := Lib.hid (checkFlows_nil L lc w0 (hL.below b0))
  have HK := Lib.hid b0
  have HT := Lib.hid ht
  clear b0 hL ht
  go_enter Try.func95, Try.ntmps95
  go_upto_region 1 with fail
  (try rw [hw0]); (try rw [hZ])
  have HZ := Lib.hid hZ
  clear hw0 hZ
  go_wp2_with fail
  refine HC.out.mono ?_
  rintro e w1 ⟨rfl, hb1⟩
  have d0 := (hb1.cell (p := ⟨Z, 0, none⟩) (by show Z < _; omega)).trans d0
  have d1 := (hb1.cell (p := ⟨Z, 1, none⟩) (by show Z < _; omega)).trans d1
  have d2 := (hb1.cell (p := ⟨Z, 2, none⟩) (by show Z < _; omega)).trans d2
  have d3 := (hb1.cell (p := ⟨Z, 3, none⟩) (by show Z < _; omega)).trans d3
  have d4 := (hb1.cell (p := ⟨Z, 4, none⟩) (by show Z < _; omega)).trans d4
  have d5 := (hb1.cell (p := ⟨Z, 5, none⟩) (by show Z < _; omega)).trans d5
  have d6 := (hb1.cell (p := ⟨Z, 6, none⟩) (by show Z < _; omega)).trans d6
  have d7 := (hb1.cell (p := ⟨Z, 7, none⟩) (by show Z < _; omega)).trans d7
  have d8 := (hb1.cell (p := ⟨Z, 8, none⟩) (by show Z < _; omega)).trans d8
  have d9 := (hb1.cell (p := ⟨Z, 9, none⟩) (by show Z < _; omega)).trans d9
  have d10 := (hb1.cell (p := ⟨Z, 10, none⟩) (by show Z < _; omega)).trans d10
  have HK1 := Lib.hid (HK.out.trans (hb1.mono HK.out.size))
  clear hb1 HK
  go_wp2_with fail
  refine (checkDrifter_dn _).mono ?_
  rintro e w2 ⟨rfl, hb2⟩
  have HK2 := Lib.hid (HK1.out.trans (hb2.mono HK1.out.size))
  clear hb2 HK1
  go_wp2_with fail
  refine (within_dn _ _ _ _).mono ?_
  rintro e w3 ⟨rfl, rfl⟩
  rw [HT.out]
  go_wp2_with fail
  go_ret
  exact ⟨rfl, HK2.out⟩

end Go.Proofs.Ytnbdnnbeiohmgaa
