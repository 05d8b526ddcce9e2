/- drift: sea.grow of a group of one run. -/
import Derived.Test.YtnbdnnbeiohmgaaDnReg
import Derived.Test.YtnbdnnbeiohmgaaGrE
namespace Go.Proofs.Ytnbdnnbeiohmgaa
open Go.RowKit Go.Shelf Go.Lib Go.Maps
attribute [local go_sem] Oper.semAt_some

/-- cells of the bay -/
def inBay (l : List (Int × Int)) : Bool := l.all fun z => decide (0 ≤ z.1) && decide (z.1 < 5) && decide (0 ≤ z.2) && decide (z.2 < 5)
theorem inBay_mem {l : List (Int × Int)} (h : inBay l = true) : ∀ z, z ∈ l → (0 ≤ z.1 ∧ z.1 < 5) ∧ 0 ≤ z.2 ∧ z.2 < 5 := fun z hz => by
  have := List.all_eq_true.1 h z hz
  simp only [Bool.and_eq_true, decide_eq_true_eq] at this
  omega
theorem inBay_i64 {l : List (Int × Int)} (h : inBay l = true) : ∀ z, z ∈ l → isI64 z.1 ∧ isI64 z.2 := fun z hz => by
  have := inBay_mem h z hz
  unfold isI64
  omega
/-- a region of one run of the bay, and what it grows to by a push -/
structure Grown (r : R3) (a b c d : Int) (R : List R3) (off : Bool) : Prop where
  ok : checkRs 5 5 100 landB [[r]] = true
  push : pushB a b c d = true
  reg : rowsR (growF 5 5 (leadOf 100 a b c d) [r]) 256 = R
  off : offL 5 5 (leadOf 100 a b c d) [r] = off
  few : R.length ≤ 8192
  ok2 : checkRs 5 5 100 landB [R] = true
  bay : inBay (cellsL R) = true
theorem gr_dn {r : R3} {a b c d : Int} {R : List R3} {off : Bool} (hg : Grown r a b c d R off) (vL v : Value) (w : World) (hL : Runs w vL landB) (hv : Runs w v [r]) :
    Calls Try.prog 11 #[.agg #[.int .i64 5, .int .i64 5, .int .i64 100, vL], v, .agg #[.int .i64 a, .int .i64 b, .int .i64 c, .int .i64 d]] w fun e w' => (∃ B m cb, e = .returned (.tuple #[.slice B m cb, .bool off, .int .i64 0]) ∧ Runs w' (.slice B m cb) R) ∧ Below w.heap.size w w' := by
  refine (grow_gr 5 5 100 a b c d vL v landB [r] w hL hv hg.ok hg.push).mono ?_
  rintro e w' ⟨⟨R', hR, v', rfl, hv'⟩, hb'⟩
  have hRe : R' = R := by
    refine (hR.single (fun y hy => ?_)).trans hg.reg
    exact growF_len _ _ _ _ _
  subst hRe
  rw [if_pos hg.few, if_pos hg.few, hg.off]
  rw [if_pos hg.few] at hv'
  obtain ⟨B, cb, rfl, -⟩ := id hv'
  exact ⟨⟨B, _, cb, rfl, hv'⟩, hb'⟩

set_option maxRecDepth 100000 in
set_option maxHeartbeats 16000000 in
theorem grow_dn (L A : Option Addr) (lc b1 b2 n ca M N : Nat) (S : Int → Int → Bool) (p0 p1 p2 p3 a b c d : Int) (r : R3) (R : List R3) (off : Bool) (w : World) (hL : Runs w (.slice L 5 lc) landB) (hv : Runs w (.slice A n ca) [r]) (hM : SetT w M N S) (hg : Grown r a b c d R off) (hN : N + (cellsL R).length ≤ 1000000) :
    Calls Try.prog 141 #[.agg #[.int .i64 5, .int .i64 5, .int .i64 100, .slice L 5 lc, .slice (some ⟨b1, 0, none⟩) 1 1, .slice (some ⟨b2, 0, none⟩) 1 1, .int .i64 20, .int .i64 20, .int .i64 10, .int .i64 20, .bool false], .map (some M), .agg #[.int .i64 p0, .int .i64 p1, .int .i64 p2, .int .i64 p3, .slice A n ca], .agg #[.int .i64 a, .int .i64 b, .int .i64 c, .int .i64 d]] w fun e w' => e = .returned (.bool off) ∧ SetT w' M (N + (cellsL R).length) (Plus S (cellsL R)) ∧ Xm M w w' := by
  have BB0 := Lib.hid (Below.refl w.heap.size w)
  have HL_0 := Lib.hid hL
  have HV_0 := Lib.hid hv
  have hMl := hM.lt
  have HM := Lib.hid hM
  clear hL hv hM
  go_enter Try.func141, Try.ntmps141
  go_upto_region 1 with fail
  obtain ⟨Z, hZ⟩ : ∃ Z, w.heap.size = Z := ⟨_, rfl⟩
  obtain ⟨w1, hw1⟩ : ∃ Z, (((w.alloc (.cells #[.int .i64 5, .int .i64 5, .int .i64 100, .slice L 5 lc, .slice (some ⟨b1, 0, none⟩) 1 1, .slice (some ⟨b2, 0, none⟩) 1 1, .int .i64 20, .int .i64 20, .int .i64 10, .int .i64 20, .bool false] 165)).alloc (.cells #[.int .i64 p0, .int .i64 p1, .int .i64 p2, .int .i64 p3, .slice A n ca] 218)).alloc (.cells #[.int .i64 a, .int .i64 b, .int .i64 c, .int .i64 d] 28)) = Z := ⟨_, rfl⟩
  have k1 : Below w.heap.size w w1 := by rw [← hw1]; exact ((((Below.refl _ _).alloc (Nat.le_refl _) _).alloc (by simp) _).alloc (by simp; omega) _)
  have z1 : Z + 1 + 1 < w1.heap.size := by rw [← hw1, ← hZ]; simp
  have y1 : w.heap.size = Z := hZ
  have sea_1c0 : w1.cell? ⟨Z, 0, none⟩ = some (.int .i64 5) := by rw [← hw1, ← hZ]; simp [go_sem]
  have sea_1c1 : w1.cell? ⟨Z, 1, none⟩ = some (.int .i64 5) := by rw [← hw1, ← hZ]; simp [go_sem]
  have sea_1c2 : w1.cell? ⟨Z, 2, none⟩ = some (.int .i64 100) := by rw [← hw1, ← hZ]; simp [go_sem]
  have sea_1c3 : w1.cell? ⟨Z, 3, none⟩ = some (.slice L 5 lc) := by rw [← hw1, ← hZ]; simp [go_sem]
  have sea_1c4 : w1.cell? ⟨Z, 4, none⟩ = some (.slice (some ⟨b1, 0, none⟩) 1 1) := by rw [← hw1, ← hZ]; simp [go_sem]
  have sea_1c5 : w1.cell? ⟨Z, 5, none⟩ = some (.slice (some ⟨b2, 0, none⟩) 1 1) := by rw [← hw1, ← hZ]; simp [go_sem]
  have sea_1c6 : w1.cell? ⟨Z, 6, none⟩ = some (.int .i64 20) := by rw [← hw1, ← hZ]; simp [go_sem]
  have sea_1c7 : w1.cell? ⟨Z, 7, none⟩ = some (.int .i64 20) := by rw [← hw1, ← hZ]; simp [go_sem]
  have sea_1c8 : w1.cell? ⟨Z, 8, none⟩ = some (.int .i64 10) := by rw [← hw1, ← hZ]; simp [go_sem]
  have sea_1c9 : w1.cell? ⟨Z, 9, none⟩ = some (.int .i64 20) := by rw [← hw1, ← hZ]; simp [go_sem]
  have sea_1c10 : w1.cell? ⟨Z, 10, none⟩ = some (.bool false) := by rw [← hw1, ← hZ]; simp [go_sem]
  have grp_1c0 : w1.cell? ⟨Z + 1, 0, none⟩ = some (.int .i64 p0) := by rw [← hw1, ← hZ]; simp [go_sem]
  have grp_1c1 : w1.cell? ⟨Z + 1, 1, none⟩ = some (.int .i64 p1) := by rw [← hw1, ← hZ]; simp [go_sem]
  have grp_1c2 : w1.cell? ⟨Z + 1, 2, none⟩ = some (.int .i64 p2) := by rw [← hw1, ← hZ]; simp [go_sem]
  have grp_1c3 : w1.cell? ⟨Z + 1, 3, none⟩ = some (.int .i64 p3) := by rw [← hw1, ← hZ]; simp [go_sem]
  have grp_1c4 : w1.cell? ⟨Z + 1, 4, none⟩ = some (.slice A n ca) := by rw [← hw1, ← hZ]; simp [go_sem]
  have pb_1c0 : w1.cell? ⟨Z + 1 + 1, 0, none⟩ = some (.int .i64 a) := by rw [← hw1, ← hZ]; simp [go_sem]
  have pb_1c1 : w1.cell? ⟨Z + 1 + 1, 1, none⟩ = some (.int .i64 b) := by rw [← hw1, ← hZ]; simp [go_sem]
  have pb_1c2 : w1.cell? ⟨Z + 1 + 1, 2, none⟩ = some (.int .i64 c) := by rw [← hw1, ← hZ]; simp [go_sem]
  have pb_1c3 : w1.cell? ⟨Z + 1 + 1, 3, none⟩ = some (.int .i64 d) := by rw [← hw1, ← hZ]; simp [go_sem]
  (try rw [hw1]); (try rw [hZ])
  clear hw1 hZ
  have S1 := k1.size
  have HL_1 := Lib.hid (HL_0.out.below k1)
  have HV_1 := Lib.hid (HV_0.out.below k1)
  have BB1 := Lib.hid (BB0.out.trans (k1.mono BB0.out.size))
  clear k1 HL_0 HV_0 BB0
  go_wp2_with fail
  refine (gr_dn hg _ _ _ HL_1.out HV_1.out).mono ?_
  rintro e w2 ⟨⟨B, m, cb, rfl, hr⟩, hb2⟩
  have k2 : Below w1.heap.size w1 w2 := hb2
  clear hb2
  have S2 := k2.size
  have sea_2c0 := (k2.cell (p := ⟨Z, 0, none⟩) (by show Z < _; omega)).trans sea_1c0
  have sea_2c1 := (k2.cell (p := ⟨Z, 1, none⟩) (by show Z < _; omega)).trans sea_1c1
  have sea_2c2 := (k2.cell (p := ⟨Z, 2, none⟩) (by show Z < _; omega)).trans sea_1c2
  have sea_2c3 := (k2.cell (p := ⟨Z, 3, none⟩) (by show Z < _; omega)).trans sea_1c3
  have sea_2c4 := (k2.cell (p := ⟨Z, 4, none⟩) (by show Z < _; omega)).trans sea_1c4
  have sea_2c5 := (k2.cell (p := ⟨Z, 5, none⟩) (by show Z < _; omega)).trans sea_1c5
  have sea_2c6 := (k2.cell (p := ⟨Z, 6, none⟩) (by show Z < _; omega)).trans sea_1c6
  have sea_2c7 := (k2.cell (p := ⟨Z, 7, none⟩) (by show Z < _; omega)).trans sea_1c7
  have sea_2c8 := (k2.cell (p := ⟨Z, 8, none⟩) (by show Z < _; omega)).trans sea_1c8
  have sea_2c9 := (k2.cell (p := ⟨Z, 9, none⟩) (by show Z < _; omega)).trans sea_1c9
  have sea_2c10 := (k2.cell (p := ⟨Z, 10, none⟩) (by show Z < _; omega)).trans sea_1c10
  have grp_2c0 := (k2.cell (p := ⟨Z + 1, 0, none⟩) (by show Z + 1 < _; omega)).trans grp_1c0
  have grp_2c1 := (k2.cell (p := ⟨Z + 1, 1, none⟩) (by show Z + 1 < _; omega)).trans grp_1c1
  have grp_2c2 := (k2.cell (p := ⟨Z + 1, 2, none⟩) (by show Z + 1 < _; omega)).trans grp_1c2
  have grp_2c3 := (k2.cell (p := ⟨Z + 1, 3, none⟩) (by show Z + 1 < _; omega)).trans grp_1c3
  have grp_2c4 := (k2.cell (p := ⟨Z + 1, 4, none⟩) (by show Z + 1 < _; omega)).trans grp_1c4
  have pb_2c0 := (k2.cell (p := ⟨Z + 1 + 1, 0, none⟩) (by show Z + 1 + 1 < _; omega)).trans pb_1c0
  have pb_2c1 := (k2.cell (p := ⟨Z + 1 + 1, 1, none⟩) (by show Z + 1 + 1 < _; omega)).trans pb_1c1
  have pb_2c2 := (k2.cell (p := ⟨Z + 1 + 1, 2, none⟩) (by show Z + 1 + 1 < _; omega)).trans pb_1c2
  have pb_2c3 := (k2.cell (p := ⟨Z + 1 + 1, 3, none⟩) (by show Z + 1 + 1 < _; omega)).trans pb_1c3
  have HL_2 := Lib.hid (HL_1.out.below k2)
  have HV_2 := Lib.hid (HV_1.out.below k2)
  have BB2 := Lib.hid (BB1.out.trans (k2.mono BB1.out.size))
  clear k2 sea_1c0 sea_1c1 sea_1c2 sea_1c3 sea_1c4 sea_1c5 sea_1c6 sea_1c7 sea_1c8 sea_1c9 sea_1c10 grp_1c0 grp_1c1 grp_1c2 grp_1c3 grp_1c4 pb_1c0 pb_1c1 pb_1c2 pb_1c3 HL_1 HV_1 BB1
  have HRn := Lib.hid hr
  clear hr
  clear grp_2c0 grp_2c1 grp_2c2 grp_2c3 grp_2c4
  clear pb_2c0 pb_2c1 pb_2c2 pb_2c3
  have HX := Lib.hid (Xm.of (M := M) BB2.out)
  have HA := Lib.hid (add_dn L B lc m cb M N S R w2 HL_2.out HRn.out (HM.out.size BB2.out) hg.ok2 hN (inBay_i64 hg.bay))
  go_wp2_with fail
  refine HA.out.mono ?_
  rintro e w9 ⟨rfl, hS, hx⟩
  have HS := Lib.hid hS
  have HX9 := Lib.hid (HX.out.trans hx)
  clear hS hx
  go_wp2_with fail
  go_ret
  exact ⟨rfl, HS.out, HX9.out⟩
end Go.Proofs.Ytnbdnnbeiohmgaa
