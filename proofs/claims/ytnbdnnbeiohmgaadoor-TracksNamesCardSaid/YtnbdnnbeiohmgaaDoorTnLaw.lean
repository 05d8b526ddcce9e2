/- The walk of the law TracksNames. -/
import Derived.Test.YtnbdnnbeiohmgaaDoorTnA
namespace Go.Proofs.YtnbdnnbeiohmgaaDoor
open Go.RowKit

theorem Sides.out {w : World} (h : Sides w) : SidesO w := fun i hi => by
  have k := h i hi
  have : i = 0 ∨ i = 1 ∨ i = 2 ∨ i = 3 := by omega
  rcases this with rfl | rfl | rfl | rfl <;> exact k
def sqN : List (Int × Int) := [(0, 0), (2, 0), (2, 2), (-2, 2), (-2, -2), (4, -2)]
def trN : List (Int × Int) := [(0, 15), (30, 15)]
def elN : List R3 := [(0, 0, 2), (1, 0, 1)]
def outN : List (Int × Int) := [(0, 0), (20, 0), (20, 10), (10, 10), (10, 20), (0, 20), (0, 0)]
def secN : List (Int × Int) := [(0, 0), (5, 0), (5, 5), (0, 0), (0, 5), (-5, 5), (0, 0), (-5, 0), (-5, -5), (0, 0), (0, -5), (5, -5), (0, 0)]
def oddN : List (Int × Int) := [(0, 0), (2, 1)]
theorem sq_N : sqL (0, 0) 2 5 = sqN ∧ sqE (0, 0) 2 5 = 0 := by decide +kernel
theorem near_N : nearB near08 (4, 0) 2 = false ∧ nearE near08 (4, 0) 2 = 0 := by decide +kernel
theorem cov_N5 : refR (cov 3 3 10 5 trN) (3 : Int).toNat (3 : Int).toNat = [(1, 0, 3)] := by decide +kernel
theorem cov_N15 : refR (cov 3 3 10 15 trN) (3 : Int).toNat (3 : Int).toNat = [(0, 0, 3), (1, 0, 3), (2, 0, 3)] := by decide +kernel
theorem covOK_N5 : coversOK 3 3 10 [] trN 5 = true := by decide +kernel
theorem covOK_N15 : coversOK 3 3 10 [] trN 15 = true := by decide +kernel
theorem el_ok : checkRs 3 3 10 [] [(0, 0, 2) :: [(1, 0, 1)]] = true := by decide +kernel
theorem el_len : (cellsL ((0, 0, 2) :: [(1, 0, 1)])).length ≤ 8192 := by decide +kernel
theorem el_one : (partsL (cellsL ((0, 0, 2) :: [(1, 0, 1)]))).length = 1 := by decide +kernel
theorem el_out : outO (inC (cellsL ((0, 0, 2) :: [(1, 0, 1)]))) 10 0 0 9 0 0 0 [(0 * 10, 0 * 10)] = some (some outN) := by decide +kernel
theorem odd_N : checkV oddN = 2 := by decide +kernel
theorem sec_N : secL (0, 0) 5 12 = secN ∧ secE (0, 0) 5 12 = 0 := by decide +kernel
theorem cnt_N : cntW [(0, 0, 3), (1, 0, 3), (2, 0, 3)] = 9 := by decide +kernel
theorem Spots.runs_nil (w : World) : Runs w (.slice none 0 0) [] := Lst.nil _

set_option maxRecDepth 100000 in
set_option maxHeartbeats 8000000 in
theorem names_tk (w : World) (hs : Sides w) (ht : Star w) (hc : Corners w) :
    Calls Tryd.prog 5 #[] w fun e w' => e = .returned (.bool true) ∧ Below w.heap.size w w' := by
  have HS := Lib.hid hs
  have HT := Lib.hid ht
  have HC := Lib.hid hc
  clear hs ht hc
  have B0 := Below.refl w.heap.size w
  go_enter Tryd.func5, Tryd.ntmps5
  go_wp2_with fail
  refine (seconds_08 _ _ (Spots_lit _ _ 3 (by simp) _ legs08 _ (by rfl) (by rfl) (by simp [maxLen]))).mono ?_
  rintro e w1 ⟨rfl, hb1⟩
  have k1 : Below w.heap.size w w1 := ((Below.refl w.heap.size w).alloc (Nat.le_refl _) _).trans (hb1.mono (by simp))
  have s1 := k1.size
  have B1 := B0.trans (k1.mono B0.size)
  clear hb1 k1 B0
  go_wp2_with fail
  refine (square_tk 0 0 2 5 _ (HS.out.below B1)).mono ?_
  rintro e w2 ⟨⟨va, rfl, hva⟩, hb2⟩
  rw [sq_N.1] at hva
  rw [sq_N.2]
  have k2 : Below w1.heap.size w1 w2 := hb2
  have s2 := k2.size
  have B2 := B1.trans (k2.mono B1.size)
  clear hb2 k2 B1
  have Ha2 := Lib.hid hva
  clear hva
  go_wp2_with fail
  refine (near_all _ near08 4 0 2 _ (Spots_lit _ _ 2 (by simp) _ near08 _ (by rfl) (by rfl) (by simp [maxLen]))).mono ?_
  rintro e w3 ⟨rfl, hb3⟩
  rw [near_N.1, near_N.2]
  have k3 : Below w2.heap.size w2 w3 := ((Below.refl w2.heap.size w2).alloc (Nat.le_refl _) _).trans (hb3.mono (by simp))
  have s3 := k3.size
  have B3 := B2.trans (k3.mono B2.size)
  have Ha3 := Lib.hid (Ha2.out.below k3)
  clear hb3 k3 Ha2 B2
  go_upto_region 5 with fail
  obtain ⟨GB, hGB⟩ : ∃ GB, w3.heap.size = GB := ⟨_, rfl⟩
  obtain ⟨w4, hw4⟩ : ∃ w', w3.alloc (.cells #[.int .i64 3, .int .i64 3, .int .i64 10, .slice none 0 0] 37) = w' := ⟨_, rfl⟩
  have k4 : Below w3.heap.size w3 w4 := by rw [← hw4]; exact (Below.refl _ _).alloc (Nat.le_refl _) _
  have hg4 : w4.heap[GB]? = some (.cells #[.int .i64 3, .int .i64 3, .int .i64 10, .slice none 0 0] 37 (0, 0)) := by rw [← hw4, ← hGB]; exact heap_alloc_new w3 _
  have s4 : GB < w4.heap.size := by rw [← hw4, ← hGB, size_allocO w3 _]; omega
  have XGB4a : w4.cell? ⟨GB, 0, none⟩ = some (.int .i64 3) := by simp [World.cell?, hg4]
  have XGB4b : w4.cell? ⟨GB, 1, none⟩ = some (.int .i64 3) := by simp [World.cell?, hg4]
  have XGB4c : w4.cell? ⟨GB, 2, none⟩ = some (.int .i64 10) := by simp [World.cell?, hg4]
  have XGB4d : w4.cell? ⟨GB, 3, none⟩ = some (.slice none 0 0) := by simp [World.cell?, hg4]
  have B4 := B3.trans (k4.mono B3.size)
  have Ha4 := Lib.hid (Ha3.out.below k4)
  rw [hGB, hw4]
  clear hw4 hg4 k4 Ha3 B3
  go_wp2_with fail
  refine (covers_ok 3 3 10 5 (.slice none 0 0) _ [] trN _ (Lst.nil _) (Spots_lit _ _ 2 (by simp) _ trN _ (by rfl) (by rfl) (by simp [maxLen])) covOK_N5 (by decide) (by decide)).mono ?_
  rintro e w5 ⟨⟨vc, rfl, hvc⟩, hb5⟩
  rw [cov_N5] at hvc
  have k5 : Below w4.heap.size w4 w5 := ((Below.refl w4.heap.size w4).alloc (Nat.le_refl _) _).trans (hb5.mono (by simp))
  have s5 := k5.size
  have B5 := B4.trans (k5.mono B4.size)
  have Ha5 := Lib.hid (Ha4.out.below k5)
  have XGB5a := (k5.cell (p := ⟨GB, 0, none⟩) (by show GB < _; omega)).trans XGB4a
  have XGB5b := (k5.cell (p := ⟨GB, 1, none⟩) (by show GB < _; omega)).trans XGB4b
  have XGB5c := (k5.cell (p := ⟨GB, 2, none⟩) (by show GB < _; omega)).trans XGB4c
  have XGB5d := (k5.cell (p := ⟨GB, 3, none⟩) (by show GB < _; omega)).trans XGB4d
  clear hb5 k5 Ha4 XGB4a XGB4b XGB4c XGB4d B4
  have Hc5 := Lib.hid hvc
  clear hvc
  go_wp2_with fail
  refine (covers_ok 3 3 10 15 (.slice none 0 0) _ [] trN _ (Lst.nil _) (Spots_lit _ _ 2 (by simp) _ trN _ (by rfl) (by rfl) (by simp [maxLen])) covOK_N15 (by decide) (by decide)).mono ?_
  rintro e w6 ⟨⟨vd, rfl, hvd⟩, hb6⟩
  rw [cov_N15] at hvd
  have k6 : Below w5.heap.size w5 w6 := ((Below.refl w5.heap.size w5).alloc (Nat.le_refl _) _).trans (hb6.mono (by simp))
  have s6 := k6.size
  have B6 := B5.trans (k6.mono B5.size)
  have Ha6 := Lib.hid (Ha5.out.below k6)
  have XGB6a := (k6.cell (p := ⟨GB, 0, none⟩) (by show GB < _; omega)).trans XGB5a
  have XGB6b := (k6.cell (p := ⟨GB, 1, none⟩) (by show GB < _; omega)).trans XGB5b
  have XGB6c := (k6.cell (p := ⟨GB, 2, none⟩) (by show GB < _; omega)).trans XGB5c
  have XGB6d := (k6.cell (p := ⟨GB, 3, none⟩) (by show GB < _; omega)).trans XGB5d
  have Hc6 := Lib.hid (Hc5.out.below k6)
  clear hb6 k6 Ha5 XGB5a XGB5b XGB5c XGB5d Hc5 B5
  have Hd6 := Lib.hid hvd
  clear hvd
  go_wp2_with fail
  refine (outline_tk 3 3 10 (.slice none 0 0) _ [] 0 0 2 [(1, 0, 1)] _ (HS.out.below (B6.alloc B6.size _)).out (HC.out.below (B6.alloc B6.size _)) (Lst.nil _) (Lst_lit encR_len _ _ 2 rfl _ elN _ (by rfl) (by rfl) (by simp [maxLen])) el_ok el_len (by decide) (by decide) el_one 9 (some outN) el_out).mono ?_
  rintro e w7 ⟨⟨ve, rfl, hve⟩, hb7⟩
  have k7 : Below w6.heap.size w6 w7 := ((Below.refl w6.heap.size w6).alloc (Nat.le_refl _) _).trans (hb7.mono (by simp))
  have s7 := k7.size
  have B7 := B6.trans (k7.mono B6.size)
  have Ha7 := Lib.hid (Ha6.out.below k7)
  have XGB7a := (k7.cell (p := ⟨GB, 0, none⟩) (by show GB < _; omega)).trans XGB6a
  have XGB7b := (k7.cell (p := ⟨GB, 1, none⟩) (by show GB < _; omega)).trans XGB6b
  have XGB7c := (k7.cell (p := ⟨GB, 2, none⟩) (by show GB < _; omega)).trans XGB6c
  have XGB7d := (k7.cell (p := ⟨GB, 3, none⟩) (by show GB < _; omega)).trans XGB6d
  have Hc7 := Lib.hid (Hc6.out.below k7)
  have Hd7 := Lib.hid (Hd6.out.below k7)
  clear hb7 k7 Ha6 XGB6a XGB6b XGB6c XGB6d Hc6 Hd6 B6
  have He7 := Lib.hid (show Spots w7 ve outN from hve)
  clear hve
  go_wp2_with fail
  refine (check_tk _ oddN _ (Spots_lit _ _ 2 (by simp) _ oddN _ (by rfl) (by rfl) (by simp [maxLen]))).mono ?_
  rintro e w8 ⟨rfl, hb8⟩
  rw [odd_N]
  have k8 : Below w7.heap.size w7 w8 := ((Below.refl w7.heap.size w7).alloc (Nat.le_refl _) _).trans (hb8.mono (by simp))
  have s8 := k8.size
  have B8 := B7.trans (k8.mono B7.size)
  have Ha8 := Lib.hid (Ha7.out.below k8)
  have XGB8a := (k8.cell (p := ⟨GB, 0, none⟩) (by show GB < _; omega)).trans XGB7a
  have XGB8b := (k8.cell (p := ⟨GB, 1, none⟩) (by show GB < _; omega)).trans XGB7b
  have XGB8c := (k8.cell (p := ⟨GB, 2, none⟩) (by show GB < _; omega)).trans XGB7c
  have XGB8d := (k8.cell (p := ⟨GB, 3, none⟩) (by show GB < _; omega)).trans XGB7d
  have Hc8 := Lib.hid (Hc7.out.below k8)
  have Hd8 := Lib.hid (Hd7.out.below k8)
  have He8 := Lib.hid (He7.out.below k8)
  clear hb8 k8 Ha7 XGB7a XGB7b XGB7c XGB7d Hc7 Hd7 He7 B7
  go_wp2_with fail
  refine (sector_tk 0 0 5 12 _ (HT.out.below B8)).mono ?_
  rintro e w9 ⟨⟨vh, rfl, hvh⟩, hb9⟩
  rw [sec_N.1] at hvh
  rw [sec_N.2]
  have k9 : Below w8.heap.size w8 w9 := hb9
  have s9 := k9.size
  have B9 := B8.trans (k9.mono B8.size)
  have Ha9 := Lib.hid (Ha8.out.below k9)
  have XGB9a := (k9.cell (p := ⟨GB, 0, none⟩) (by show GB < _; omega)).trans XGB8a
  have XGB9b := (k9.cell (p := ⟨GB, 1, none⟩) (by show GB < _; omega)).trans XGB8b
  have XGB9c := (k9.cell (p := ⟨GB, 2, none⟩) (by show GB < _; omega)).trans XGB8c
  have XGB9d := (k9.cell (p := ⟨GB, 3, none⟩) (by show GB < _; omega)).trans XGB8d
  have Hc9 := Lib.hid (Hc8.out.below k9)
  have Hd9 := Lib.hid (Hd8.out.below k9)
  have He9 := Lib.hid (He8.out.below k9)
  clear hb9 k9 Ha8 XGB8a XGB8b XGB8c XGB8d Hc8 Hd8 He8 B8
  have Hh9 := Lib.hid hvh
  clear hvh
  go_wp2_with fail
  refine (par_long _).mono ?_
  rintro e w10 ⟨rfl, hb10⟩
  have k10 : Below w9.heap.size w9 w10 := hb10
  have s10 := k10.size
  have B10 := B9.trans (k10.mono B9.size)
  have Ha10 := Lib.hid (Ha9.out.below k10)
  have XGB10a := (k10.cell (p := ⟨GB, 0, none⟩) (by show GB < _; omega)).trans XGB9a
  have XGB10b := (k10.cell (p := ⟨GB, 1, none⟩) (by show GB < _; omega)).trans XGB9b
  have XGB10c := (k10.cell (p := ⟨GB, 2, none⟩) (by show GB < _; omega)).trans XGB9c
  have XGB10d := (k10.cell (p := ⟨GB, 3, none⟩) (by show GB < _; omega)).trans XGB9d
  have Hc10 := Lib.hid (Hc9.out.below k10)
  have Hd10 := Lib.hid (Hd9.out.below k10)
  have He10 := Lib.hid (He9.out.below k10)
  have Hh10 := Lib.hid (Hh9.out.below k10)
  clear hb10 k10 Ha9 XGB9a XGB9b XGB9c XGB9d Hc9 Hd9 He9 Hh9 B9
  go_wp2_with fail
  refine (equal_tk _ _ sqN _ (Ha10.out.alloc _) (Spots_lit _ _ 6 (by simp) _ sqN _ (by rfl) (by rfl) (by simp [maxLen]))).mono ?_
  rintro e w11 ⟨rfl, hb11⟩
  have k11 : Below w10.heap.size w10 w11 := ((Below.refl w10.heap.size w10).alloc (Nat.le_refl _) _).trans (hb11.mono (by simp))
  have s11 := k11.size
  have B11 := B10.trans (k11.mono B10.size)
  have Ha11 := Lib.hid (Ha10.out.below k11)
  have XGB11a := (k11.cell (p := ⟨GB, 0, none⟩) (by show GB < _; omega)).trans XGB10a
  have XGB11b := (k11.cell (p := ⟨GB, 1, none⟩) (by show GB < _; omega)).trans XGB10b
  have XGB11c := (k11.cell (p := ⟨GB, 2, none⟩) (by show GB < _; omega)).trans XGB10c
  have XGB11d := (k11.cell (p := ⟨GB, 3, none⟩) (by show GB < _; omega)).trans XGB10d
  have Hc11 := Lib.hid (Hc10.out.below k11)
  have Hd11 := Lib.hid (Hd10.out.below k11)
  have He11 := Lib.hid (He10.out.below k11)
  have Hh11 := Lib.hid (Hh10.out.below k11)
  clear hb11 k11 Ha10 XGB10a XGB10b XGB10c XGB10d Hc10 Hd10 He10 Hh10 B10
  go_wp2_with fail
  refine (same_gr _ _ [(1, 0, 3)] _ (Hc11.out.alloc _) (Lst_lit encR_len _ _ 1 rfl _ [(1, 0, 3)] _ (by rfl) (by rfl) (by simp [maxLen]))).mono ?_
  rintro e w12 ⟨rfl, hb12⟩
  have k12 : Below w11.heap.size w11 w12 := ((Below.refl w11.heap.size w11).alloc (Nat.le_refl _) _).trans (hb12.mono (by simp))
  have s12 := k12.size
  have B12 := B11.trans (k12.mono B11.size)
  have Ha12 := Lib.hid (Ha11.out.below k12)
  have XGB12a := (k12.cell (p := ⟨GB, 0, none⟩) (by show GB < _; omega)).trans XGB11a
  have XGB12b := (k12.cell (p := ⟨GB, 1, none⟩) (by show GB < _; omega)).trans XGB11b
  have XGB12c := (k12.cell (p := ⟨GB, 2, none⟩) (by show GB < _; omega)).trans XGB11c
  have XGB12d := (k12.cell (p := ⟨GB, 3, none⟩) (by show GB < _; omega)).trans XGB11d
  have Hc12 := Lib.hid (Hc11.out.below k12)
  have Hd12 := Lib.hid (Hd11.out.below k12)
  have He12 := Lib.hid (He11.out.below k12)
  have Hh12 := Lib.hid (Hh11.out.below k12)
  clear hb12 k12 Ha11 XGB11a XGB11b XGB11c XGB11d Hc11 Hd11 He11 Hh11 B11
  go_wp2_with fail
  refine (count_gr _ _ _ Hd12.out).mono ?_
  rintro e w13 ⟨rfl, hb13⟩
  rw [cnt_N]
  have k13 : Below w12.heap.size w12 w13 := hb13
  have s13 := k13.size
  have B13 := B12.trans (k13.mono B12.size)
  have Ha13 := Lib.hid (Ha12.out.below k13)
  have XGB13a := (k13.cell (p := ⟨GB, 0, none⟩) (by show GB < _; omega)).trans XGB12a
  have XGB13b := (k13.cell (p := ⟨GB, 1, none⟩) (by show GB < _; omega)).trans XGB12b
  have XGB13c := (k13.cell (p := ⟨GB, 2, none⟩) (by show GB < _; omega)).trans XGB12c
  have XGB13d := (k13.cell (p := ⟨GB, 3, none⟩) (by show GB < _; omega)).trans XGB12d
  have Hc13 := Lib.hid (Hc12.out.below k13)
  have Hd13 := Lib.hid (Hd12.out.below k13)
  have He13 := Lib.hid (He12.out.below k13)
  have Hh13 := Lib.hid (Hh12.out.below k13)
  clear hb13 k13 Ha12 XGB12a XGB12b XGB12c XGB12d Hc12 Hd12 He12 Hh12 B12
  go_wp2_with fail
  refine (equal_tk _ _ outN _ (He13.out.alloc _) (Spots_lit _ _ 7 (by simp) _ outN _ (by rfl) (by rfl) (by simp [maxLen]))).mono ?_
  rintro e w14 ⟨rfl, hb14⟩
  have k14 : Below w13.heap.size w13 w14 := ((Below.refl w13.heap.size w13).alloc (Nat.le_refl _) _).trans (hb14.mono (by simp))
  have s14 := k14.size
  have B14 := B13.trans (k14.mono B13.size)
  have Ha14 := Lib.hid (Ha13.out.below k14)
  have XGB14a := (k14.cell (p := ⟨GB, 0, none⟩) (by show GB < _; omega)).trans XGB13a
  have XGB14b := (k14.cell (p := ⟨GB, 1, none⟩) (by show GB < _; omega)).trans XGB13b
  have XGB14c := (k14.cell (p := ⟨GB, 2, none⟩) (by show GB < _; omega)).trans XGB13c
  have XGB14d := (k14.cell (p := ⟨GB, 3, none⟩) (by show GB < _; omega)).trans XGB13d
  have Hc14 := Lib.hid (Hc13.out.below k14)
  have Hd14 := Lib.hid (Hd13.out.below k14)
  have He14 := Lib.hid (He13.out.below k14)
  have Hh14 := Lib.hid (Hh13.out.below k14)
  clear hb14 k14 Ha13 XGB13a XGB13b XGB13c XGB13d Hc13 Hd13 He13 Hh13 B13
  obtain ⟨Ah, ch, rfl, hh1, -, hh2⟩ := Hh14.out
  obtain ⟨bh, oh, rfl, -, hh3⟩ := hh2 (by decide)
  have z0 := (hh3 12 (0, 0) rfl).1
  have z1 := (hh3 12 (0, 0) rfl).2
  have z2 := (hh3 5 (-5, 5) rfl).1
  have z3 := (hh3 5 (-5, 5) rfl).2
  have hsl : secN.length = 13 := rfl
  rw [hsl] at hh1 ⊢
  clear hh2 hh3 hsl
  have q1 := eql_spot_to 0 0 0 0 true rfl
  have q2 := eql_spot_to (-5) 5 (-5) 5 true rfl
  clear Hh14
  go_wp2_with fail
  refine (alive_tk _).mono ?_
  rintro e w15 ⟨rfl, hb15⟩
  have k15 : Below w14.heap.size w14 w15 := hb15
  have s15 := k15.size
  have B15 := B14.trans (k15.mono B14.size)
  have Ha15 := Lib.hid (Ha14.out.below k15)
  have XGB15a := (k15.cell (p := ⟨GB, 0, none⟩) (by show GB < _; omega)).trans XGB14a
  have XGB15b := (k15.cell (p := ⟨GB, 1, none⟩) (by show GB < _; omega)).trans XGB14b
  have XGB15c := (k15.cell (p := ⟨GB, 2, none⟩) (by show GB < _; omega)).trans XGB14c
  have XGB15d := (k15.cell (p := ⟨GB, 3, none⟩) (by show GB < _; omega)).trans XGB14d
  have Hc15 := Lib.hid (Hc14.out.below k15)
  have Hd15 := Lib.hid (Hd14.out.below k15)
  have He15 := Lib.hid (He14.out.below k15)
  clear hb15 k15 Ha14 XGB14a XGB14b XGB14c XGB14d Hc14 Hd14 He14 B14
  go_wp2_with fail
  go_ret
  exact ⟨rfl, B15⟩
end Go.Proofs.YtnbdnnbeiohmgaaDoor
