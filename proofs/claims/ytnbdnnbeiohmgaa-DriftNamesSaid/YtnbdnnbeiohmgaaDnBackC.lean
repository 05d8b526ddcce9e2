/- drift: sea.before of the bay's patch. -/
import Derived.Test.YtnbdnnbeiohmgaaDnBackL
namespace Go.Proofs.Ytnbdnnbeiohmgaa
open Go.RowKit Go.Shelf Go.Lib Go.Maps
attribute [local go_sem] Oper.semAt_some

set_option maxRecDepth 100000 in
set_option maxHeartbeats 32000000 in
theorem before_dn (L A A1 : Option Addr) (lc b1 b2 ca c1 : Nat) (w : World) (hB : Bay w L lc b1 b2 A ca) (h1 : Runs w (.slice A1 1 c1) [(2, 2, 3)]) :
    Calls Try.prog 100 #[.agg #[.int .i64 5, .int .i64 5, .int .i64 100, .slice L 5 lc, .slice (some ⟨b1, 0, none⟩) 1 1, .slice (some ⟨b2, 0, none⟩) 1 1, .int .i64 20, .int .i64 20, .int .i64 10, .int .i64 20, .bool false], .agg #[.int .i64 1000, .slice A1 1 c1, .slice none 0 0, .slice none 0 0, .bool false], .int .i64 1000] w fun e w' => (∃ P0 P1 P2 k0 k1 k2 e0 e1 e2, e = .returned (.tuple #[.agg #[.int .i64 0, .slice P0 k0 e0, .slice P1 k1 e1, .slice P2 k2 e2, .bool false], .int .i64 0]) ∧ Runs w' (.slice P0 k0 e0) [(1, 1, 2), (2, 1, 2)] ∧ Runs w' (.slice P1 k1 e1) [] ∧ Runs w' (.slice P2 k2 e2) []) ∧ Below w.heap.size w w' := by
  have HB0 := Lib.hid hB
  have H10 := Lib.hid h1
  have BB0 := Lib.hid (Below.refl w.heap.size w)
  clear hB h1
  go_enter Try.func100, Try.ntmps100
  go_upto_region 1 with fail
  obtain ⟨Z, hZ⟩ : ∃ Z, w.heap.size = Z := ⟨_, rfl⟩
  obtain ⟨w1, hw1⟩ : ∃ Z, (((w.alloc (.cells #[.int .i64 5, .int .i64 5, .int .i64 100, .slice L 5 lc, .slice (some ⟨b1, 0, none⟩) 1 1, .slice (some ⟨b2, 0, none⟩) 1 1, .int .i64 20, .int .i64 20, .int .i64 10, .int .i64 20, .bool false] 165)).alloc (.cells #[.int .i64 1000, .slice A1 1 c1, .slice none 0 0, .slice none 0 0, .bool false] 89)).alloc (.cells #[.int .i64 0, .slice none 0 0, .slice none 0 0, .slice none 0 0, .bool false] 89)) = Z := ⟨_, rfl⟩
  have k1 : Below w.heap.size w w1 := by rw [← hw1]; exact ((((Below.refl _ _).alloc (Nat.le_refl _) _).alloc (by simp) _).alloc (by simp; omega) _)
  have z1 : Z + 1 + 1 < w1.heap.size := by rw [← hw1, ← hZ]; simp
  have y1 : w.heap.size = Z := hZ
  have sea_1 : HasO w1 (Z) (.cells #[.int .i64 5, .int .i64 5, .int .i64 100, .slice L 5 lc, .slice (some ⟨b1, 0, none⟩) 1 1, .slice (some ⟨b2, 0, none⟩) 1 1, .int .i64 20, .int .i64 20, .int .i64 10, .int .i64 20, .bool false] 165 (0, 0)) := by rw [← hw1, ← hZ]; have h := (HasO.alloc (HasO.alloc (HasO.new (w := w) (o := .cells #[.int .i64 5, .int .i64 5, .int .i64 100, .slice L 5 lc, .slice (some ⟨b1, 0, none⟩) 1 1, .slice (some ⟨b2, 0, none⟩) 1 1, .int .i64 20, .int .i64 20, .int .i64 10, .int .i64 20, .bool false] 165) rfl) (.cells #[.int .i64 1000, .slice A1 1 c1, .slice none 0 0, .slice none 0 0, .bool false] 89)) (.cells #[.int .i64 0, .slice none 0 0, .slice none 0 0, .slice none 0 0, .bool false] 89)); simpa only [World.size_alloc] using h
  have pat_1 : HasO w1 (Z + 1) (.cells #[.int .i64 1000, .slice A1 1 c1, .slice none 0 0, .slice none 0 0, .bool false] 89 (0, 0)) := by rw [← hw1, ← hZ]; have h := (HasO.alloc (HasO.new (w := (w.alloc (.cells #[.int .i64 5, .int .i64 5, .int .i64 100, .slice L 5 lc, .slice (some ⟨b1, 0, none⟩) 1 1, .slice (some ⟨b2, 0, none⟩) 1 1, .int .i64 20, .int .i64 20, .int .i64 10, .int .i64 20, .bool false] 165))) (o := .cells #[.int .i64 1000, .slice A1 1 c1, .slice none 0 0, .slice none 0 0, .bool false] 89) rfl) (.cells #[.int .i64 0, .slice none 0 0, .slice none 0 0, .slice none 0 0, .bool false] 89)); simpa only [World.size_alloc] using h
  have res_1 : HasO w1 (Z + 1 + 1) (.cells #[.int .i64 0, .slice none 0 0, .slice none 0 0, .slice none 0 0, .bool false] 89 (0, 0)) := by rw [← hw1, ← hZ]; have h := (HasO.new (w := ((w.alloc (.cells #[.int .i64 5, .int .i64 5, .int .i64 100, .slice L 5 lc, .slice (some ⟨b1, 0, none⟩) 1 1, .slice (some ⟨b2, 0, none⟩) 1 1, .int .i64 20, .int .i64 20, .int .i64 10, .int .i64 20, .bool false] 165)).alloc (.cells #[.int .i64 1000, .slice A1 1 c1, .slice none 0 0, .slice none 0 0, .bool false] 89))) (o := .cells #[.int .i64 0, .slice none 0 0, .slice none 0 0, .slice none 0 0, .bool false] 89) rfl); simpa only [World.size_alloc] using h
  (try rw [hw1]); (try rw [hZ])
  clear hw1 hZ
  have S1 := k1.size
  have BB1 := Lib.hid (BB0.out.trans (k1.mono BB0.out.size))
  clear k1 BB0
  have seaH_1 := Lib.hid sea_1
  clear sea_1
  have patH_1 := Lib.hid pat_1
  clear pat_1
  have resH_1 := Lib.hid res_1
  clear res_1
  have q1pat0 := HasO.cell (i := 0) patH_1.out rfl
  go_upto_region 5 with fail
  clear q1pat0
  obtain ⟨T, hT⟩ : ∃ Z, w1.heap.size = Z := ⟨_, rfl⟩
  obtain ⟨w2, hw2⟩ : ∃ Z, (w1.alloc (.cells #[.map none, .map none, .map none] 226)) = Z := ⟨_, rfl⟩
  have k2 : Below w1.heap.size w1 w2 := by rw [← hw2]; exact ((Below.refl _ _).alloc (Nat.le_refl _) _)
  have z2 : T < w2.heap.size := by rw [← hw2, ← hT]; simp
  have y2 : w1.heap.size = T := hT
  have to_2 : HasO w2 (T) (.cells #[.map none, .map none, .map none] 226 (0, 0)) := by rw [← hw2, ← hT]; have h := (HasO.new (w := w1) (o := .cells #[.map none, .map none, .map none] 226) rfl); simpa only [World.size_alloc] using h
  (try rw [hw2]); (try rw [hT])
  clear hw2 hT
  have S2 := k2.size
  have sea_2 := Lib.hid (seaH_1.out.below k2)
  have pat_2 := Lib.hid (patH_1.out.below k2)
  have res_2 := Lib.hid (resH_1.out.below k2)
  have BB2 := Lib.hid (BB1.out.trans (k2.mono BB1.out.size))
  clear k2 seaH_1 patH_1 resH_1 BB1
  have toH_2 := Lib.hid to_2
  clear to_2
  have q2pat0 := HasO.cell (i := 0) pat_2.out rfl
  have q2pat1 := HasO.cell (i := 1) pat_2.out rfl
  have q2pat2 := HasO.cell (i := 2) pat_2.out rfl
  have q2pat3 := HasO.cell (i := 3) pat_2.out rfl
  have q2pat4 := HasO.cell (i := 4) pat_2.out rfl
  go_wp2_with fail
  refine (of_dn 1000 false A1 none none 1 0 0 c1 0 0 _).mono ?_
  rintro e w3 ⟨rfl, hb3⟩
  have k3 : Below w2.heap.size w2 w3 := hb3
  clear hb3
  have S3 := k3.size
  have sea_3 := Lib.hid (sea_2.out.below k3)
  have pat_3 := Lib.hid (pat_2.out.below k3)
  have res_3 := Lib.hid (res_2.out.below k3)
  have to_3 := Lib.hid (toH_2.out.below k3)
  have BB3 := Lib.hid (BB2.out.trans (k3.mono BB2.out.size))
  clear k3 sea_2 pat_2 res_2 toH_2 BB2
  clear q2pat0 q2pat1 q2pat2 q2pat3 q2pat4
  have hi0 := index_reg0 A1 none none 1 0 0 c1 0 0
  have hi1 := index_reg1 A1 none none 1 0 0 c1 0 0
  have hi2 := index_reg2 A1 none none 1 0 0 c1 0 0
  go_wp2_with fail
  refine wp_loop_rounds 4 ?_
  rw [rounds_succ]
  have hmk := makeSet w3
  have zT0 := HasO.lt to_3.out
  have q3to0 := HasO.cell (i := 0) to_3.out rfl
  have q3tof0 := HasO.frozen (i := 0) to_3.out
  go_upto_region 9 with fail
  obtain ⟨M0, hM0⟩ : ∃ Z, w3.heap.size = Z := ⟨_, rfl⟩
  obtain ⟨w4, hw4⟩ : ∃ Z, ((w3.setCell ⟨T, 0, none⟩ (.map (some w3.heap.size))).alloc (.map #[] 0)) = Z := ⟨_, rfl⟩
  have hX4 : Xm T w3 w4 := by rw [← hw4]; exact (Xm.set _ _).trans (Xm.of ((Below.refl _ _).alloc (Nat.le_refl _) _))
  have hMn : HasO w4 M0 (.map #[] 0) := by rw [← hw4, ← hM0]; exact HasO.newR (sizeS _ _ _)
  have hTn : HasO w4 T (.cells #[.map (some M0), .map none, .map none] 226 (0, 0)) := by rw [← hw4, ← hM0]; exact HasO.alloc (HasO.set to_3.out) _
  have zM0 := hMn.lt
  have yM0 : w3.heap.size = M0 := hM0
  (try rw [hw4]); (try rw [hM0])
  clear hw4 hM0 hmk
  clear q3to0 q3tof0
  clear to_3
  have S5 := Xm.size hX4
  have sea_5 := Lib.hid (sea_3.out.xm hX4 (by omega))
  have pat_5 := Lib.hid (pat_3.out.xm hX4 (by omega))
  have res_5 := Lib.hid (res_3.out.xm hX4 (by omega))
  have BB5 := Lib.hid (BB3.out.trans (Xm.below hX4 (B := w.heap.size) (by omega) (by omega)))
  clear sea_3 pat_3 res_3 BB3
  clear hX4
  have to_h5 := Lib.hid (hTn)
  have s0_h5 := Lib.hid (BaySet.new hMn)
  clear hTn hMn
  have HG := Lib.hid (fun W (hW : Below w4.heap.size w4 W) => add_dn L A1 lc 1 c1 M0 0 (fun _ _ => false) [(2, 2, 3)] W (HB0.out.1.below (BB5.out.trans (hW.mono BB5.out.size))) (H10.out.below (BB5.out.trans (hW.mono BB5.out.size))) (s0_h5.out.set.size hW) (by decide +kernel) (by decide +kernel) (inBay_i64 (by decide +kernel)))
  have lZ := HasO.lt sea_5.out
  have nlZ : Z ≠ M0 := by omega
  have lT := HasO.lt to_h5.out
  have nlT : T ≠ M0 := by omega
  have Q1 := Lib.hid (show Holds w4 [(Z, 0, .int .i64 5), (Z, 1, .int .i64 5), (Z, 2, .int .i64 100), (Z, 3, .slice L 5 lc), (T, 0, .map (some M0))] from (.cons lZ (HasO.cell (i := 0) sea_5.out rfl) (.cons lZ (HasO.cell (i := 1) sea_5.out rfl) (.cons lZ (HasO.cell (i := 2) sea_5.out rfl) (.cons lZ (HasO.cell (i := 3) sea_5.out rfl) (.cons lT (HasO.cell (i := 0) to_h5.out rfl) (.nil _)))))))
  have NE := Lib.hid (show ∀ z, z ∈ ([(Z, 0, .int .i64 5), (Z, 1, .int .i64 5), (Z, 2, .int .i64 100), (Z, 3, .slice L 5 lc), (T, 0, .map (some M0))] : List (Nat × Nat × Value)) → z.1 ≠ M0 from (neCons nlZ (neCons nlZ (neCons nlZ (neCons nlZ (neCons nlT (neNil _)))))))
  clear lZ nlZ lT nlT
  go_region_held3 (fun W' => W'.cell? ⟨Z, 0, none⟩ = some (.int .i64 5) ∧ W'.cell? ⟨Z, 1, none⟩ = some (.int .i64 5) ∧ W'.cell? ⟨Z, 2, none⟩ = some (.int .i64 100) ∧ W'.cell? ⟨Z, 3, none⟩ = some (.slice L 5 lc) ∧ W'.cell? ⟨T, 0, none⟩ = some (.map (some M0)))
    (first | with_reducible exact holds5 Q1.out | with_reducible exact holds5 (.drew Q1.out) | with_reducible exact holds5 Q2.out | fail)
    (first | (go_at_call 139; refine (HG.out _ (by first | exact Below.refl _ _ | exact drewB _)).mono ?_; rintro e v0 ⟨rfl, hS, hx⟩; have hx2 : Xm M0 w4 v0 := (by first | exact hx | exact xm_of_drew hx); have Q2 := Lib.hid (Q1.out.xm hx2 NE.out); have HS := Lib.hid hS; have HX := Lib.hid hx2; clear hS hx hx2; skip))
  rename_i hHeld
  clear hHeld Q1 Q2 NE HG
  have SB := Lib.hid (BaySet.plus s0_h5.out HS.out (by decide +kernel) (by decide +kernel))
  clear s0_h5 HS
  have S6 := Xm.size HX.out
  have sea_6 := Lib.hid (sea_5.out.xm HX.out (by omega))
  have pat_6 := Lib.hid (pat_5.out.xm HX.out (by omega))
  have res_6 := Lib.hid (res_5.out.xm HX.out (by omega))
  have to_6 := Lib.hid (to_h5.out.xm HX.out (by omega))
  have BB6 := Lib.hid (BB5.out.trans (Xm.below HX.out (B := w.heap.size) (by omega) (by omega)))
  clear sea_5 pat_5 res_5 to_h5 BB5
  clear HX
  have SB0 := SB
  clear SB
  go_wp2_with fail
  rw [rounds_succ]
  have hmk := makeSet v0
  have zT1 := HasO.lt to_6.out
  have q6to1 := HasO.cell (i := 1) to_6.out rfl
  have q6tof1 := HasO.frozen (i := 1) to_6.out
  go_upto_region 9 with fail
  obtain ⟨M1, hM0⟩ : ∃ Z, v0.heap.size = Z := ⟨_, rfl⟩
  obtain ⟨w7, hw7⟩ : ∃ Z, ((v0.setCell ⟨T, 1, none⟩ (.map (some v0.heap.size))).alloc (.map #[] 0)) = Z := ⟨_, rfl⟩
  have hX7 : Xm T v0 w7 := by rw [← hw7]; exact (Xm.set _ _).trans (Xm.of ((Below.refl _ _).alloc (Nat.le_refl _) _))
  have hMn : HasO w7 M1 (.map #[] 0) := by rw [← hw7, ← hM0]; exact HasO.newR (sizeS _ _ _)
  have hTn : HasO w7 T (.cells #[.map (some M0), .map (some M1), .map none] 226 (0, 0)) := by rw [← hw7, ← hM0]; exact HasO.alloc (HasO.set to_6.out) _
  have zM1 := hMn.lt
  have yM1 : v0.heap.size = M1 := hM0
  (try rw [hw7]); (try rw [hM0])
  clear hw7 hM0 hmk
  clear q6to1 q6tof1
  clear to_6
  have S8 := Xm.size hX7
  have sea_8 := Lib.hid (sea_6.out.xm hX7 (by omega))
  have pat_8 := Lib.hid (pat_6.out.xm hX7 (by omega))
  have res_8 := Lib.hid (res_6.out.xm hX7 (by omega))
  have s0_8 := Lib.hid (SB0.out.xm hX7 (by omega))
  have BB8 := Lib.hid (BB6.out.trans (Xm.below hX7 (B := w.heap.size) (by omega) (by omega)))
  clear sea_6 pat_6 res_6 SB0 BB6
  clear hX7
  have to_h8 := Lib.hid (hTn)
  have s1_h8 := Lib.hid (BaySet.new hMn)
  clear hTn hMn
  have HG := Lib.hid (fun W (hW : Below w7.heap.size w7 W) => add_dn L none lc 0 0 M1 0 (fun _ _ => false) [] W (HB0.out.1.below (BB8.out.trans (hW.mono BB8.out.size))) (Lst.nil _) (s1_h8.out.set.size hW) (by decide +kernel) (by decide +kernel) (inBay_i64 (by decide +kernel)))
  have lZ := HasO.lt sea_8.out
  have nlZ : Z ≠ M1 := by omega
  have lT := HasO.lt to_h8.out
  have nlT : T ≠ M1 := by omega
  have Q1 := Lib.hid (show Holds w7 [(Z, 0, .int .i64 5), (Z, 1, .int .i64 5), (Z, 2, .int .i64 100), (Z, 3, .slice L 5 lc), (T, 1, .map (some M1))] from (.cons lZ (HasO.cell (i := 0) sea_8.out rfl) (.cons lZ (HasO.cell (i := 1) sea_8.out rfl) (.cons lZ (HasO.cell (i := 2) sea_8.out rfl) (.cons lZ (HasO.cell (i := 3) sea_8.out rfl) (.cons lT (HasO.cell (i := 1) to_h8.out rfl) (.nil _)))))))
  have NE := Lib.hid (show ∀ z, z ∈ ([(Z, 0, .int .i64 5), (Z, 1, .int .i64 5), (Z, 2, .int .i64 100), (Z, 3, .slice L 5 lc), (T, 1, .map (some M1))] : List (Nat × Nat × Value)) → z.1 ≠ M1 from (neCons nlZ (neCons nlZ (neCons nlZ (neCons nlZ (neCons nlT (neNil _)))))))
  clear lZ nlZ lT nlT
  go_region_held3 (fun W' => W'.cell? ⟨Z, 0, none⟩ = some (.int .i64 5) ∧ W'.cell? ⟨Z, 1, none⟩ = some (.int .i64 5) ∧ W'.cell? ⟨Z, 2, none⟩ = some (.int .i64 100) ∧ W'.cell? ⟨Z, 3, none⟩ = some (.slice L 5 lc) ∧ W'.cell? ⟨T, 1, none⟩ = some (.map (some M1)))
    (first | with_reducible exact holds5 Q1.out | with_reducible exact holds5 (.drew Q1.out) | with_reducible exact holds5 Q2.out | fail)
    (first | (go_at_call 139; refine (HG.out _ (by first | exact Below.refl _ _ | exact drewB _)).mono ?_; rintro e v1 ⟨rfl, hS, hx⟩; have hx2 : Xm M1 w7 v1 := (by first | exact hx | exact xm_of_drew hx); have Q2 := Lib.hid (Q1.out.xm hx2 NE.out); have HS := Lib.hid hS; have HX := Lib.hid hx2; clear hS hx hx2; skip))
  rename_i hHeld
  clear hHeld Q1 Q2 NE HG
  have SB := Lib.hid (BaySet.plus s1_h8.out HS.out (by decide +kernel) (by decide +kernel))
  clear s1_h8 HS
  have S9 := Xm.size HX.out
  have sea_9 := Lib.hid (sea_8.out.xm HX.out (by omega))
  have pat_9 := Lib.hid (pat_8.out.xm HX.out (by omega))
  have res_9 := Lib.hid (res_8.out.xm HX.out (by omega))
  have s0_9 := Lib.hid (s0_8.out.xm HX.out (by omega))
  have to_9 := Lib.hid (to_h8.out.xm HX.out (by omega))
  have BB9 := Lib.hid (BB8.out.trans (Xm.below HX.out (B := w.heap.size) (by omega) (by omega)))
  clear sea_8 pat_8 res_8 s0_8 to_h8 BB8
  clear HX
  have SB1 := SB
  clear SB
  go_wp2_with fail
  rw [rounds_succ]
  have hmk := makeSet v1
  have zT2 := HasO.lt to_9.out
  have q9to2 := HasO.cell (i := 2) to_9.out rfl
  have q9tof2 := HasO.frozen (i := 2) to_9.out
  go_upto_region 9 with fail
  obtain ⟨M2, hM0⟩ : ∃ Z, v1.heap.size = Z := ⟨_, rfl⟩
  obtain ⟨w10, hw10⟩ : ∃ Z, ((v1.setCell ⟨T, 2, none⟩ (.map (some v1.heap.size))).alloc (.map #[] 0)) = Z := ⟨_, rfl⟩
  have hX10 : Xm T v1 w10 := by rw [← hw10]; exact (Xm.set _ _).trans (Xm.of ((Below.refl _ _).alloc (Nat.le_refl _) _))
  have hMn : HasO w10 M2 (.map #[] 0) := by rw [← hw10, ← hM0]; exact HasO.newR (sizeS _ _ _)
  have hTn : HasO w10 T (.cells #[.map (some M0), .map (some M1), .map (some M2)] 226 (0, 0)) := by rw [← hw10, ← hM0]; exact HasO.alloc (HasO.set to_9.out) _
  have zM2 := hMn.lt
  have yM2 : v1.heap.size = M2 := hM0
  (try rw [hw10]); (try rw [hM0])
  clear hw10 hM0 hmk
  clear q9to2 q9tof2
  clear to_9
  have S11 := Xm.size hX10
  have sea_11 := Lib.hid (sea_9.out.xm hX10 (by omega))
  have pat_11 := Lib.hid (pat_9.out.xm hX10 (by omega))
  have res_11 := Lib.hid (res_9.out.xm hX10 (by omega))
  have s0_11 := Lib.hid (s0_9.out.xm hX10 (by omega))
  have s1_11 := Lib.hid (SB1.out.xm hX10 (by omega))
  have BB11 := Lib.hid (BB9.out.trans (Xm.below hX10 (B := w.heap.size) (by omega) (by omega)))
  clear sea_9 pat_9 res_9 s0_9 SB1 BB9
  clear hX10
  have to_h11 := Lib.hid (hTn)
  have s2_h11 := Lib.hid (BaySet.new hMn)
  clear hTn hMn
  have HG := Lib.hid (fun W (hW : Below w10.heap.size w10 W) => add_dn L none lc 0 0 M2 0 (fun _ _ => false) [] W (HB0.out.1.below (BB11.out.trans (hW.mono BB11.out.size))) (Lst.nil _) (s2_h11.out.set.size hW) (by decide +kernel) (by decide +kernel) (inBay_i64 (by decide +kernel)))
  have lZ := HasO.lt sea_11.out
  have nlZ : Z ≠ M2 := by omega
  have lT := HasO.lt to_h11.out
  have nlT : T ≠ M2 := by omega
  have Q1 := Lib.hid (show Holds w10 [(Z, 0, .int .i64 5), (Z, 1, .int .i64 5), (Z, 2, .int .i64 100), (Z, 3, .slice L 5 lc), (T, 2, .map (some M2))] from (.cons lZ (HasO.cell (i := 0) sea_11.out rfl) (.cons lZ (HasO.cell (i := 1) sea_11.out rfl) (.cons lZ (HasO.cell (i := 2) sea_11.out rfl) (.cons lZ (HasO.cell (i := 3) sea_11.out rfl) (.cons lT (HasO.cell (i := 2) to_h11.out rfl) (.nil _)))))))
  have NE := Lib.hid (show ∀ z, z ∈ ([(Z, 0, .int .i64 5), (Z, 1, .int .i64 5), (Z, 2, .int .i64 100), (Z, 3, .slice L 5 lc), (T, 2, .map (some M2))] : List (Nat × Nat × Value)) → z.1 ≠ M2 from (neCons nlZ (neCons nlZ (neCons nlZ (neCons nlZ (neCons nlT (neNil _)))))))
  clear lZ nlZ lT nlT
  go_region_held3 (fun W' => W'.cell? ⟨Z, 0, none⟩ = some (.int .i64 5) ∧ W'.cell? ⟨Z, 1, none⟩ = some (.int .i64 5) ∧ W'.cell? ⟨Z, 2, none⟩ = some (.int .i64 100) ∧ W'.cell? ⟨Z, 3, none⟩ = some (.slice L 5 lc) ∧ W'.cell? ⟨T, 2, none⟩ = some (.map (some M2)))
    (first | with_reducible exact holds5 Q1.out | with_reducible exact holds5 (.drew Q1.out) | with_reducible exact holds5 Q2.out | fail)
    (first | (go_at_call 139; refine (HG.out _ (by first | exact Below.refl _ _ | exact drewB _)).mono ?_; rintro e v2 ⟨rfl, hS, hx⟩; have hx2 : Xm M2 w10 v2 := (by first | exact hx | exact xm_of_drew hx); have Q2 := Lib.hid (Q1.out.xm hx2 NE.out); have HS := Lib.hid hS; have HX := Lib.hid hx2; clear hS hx hx2; skip))
  rename_i hHeld
  clear hHeld Q1 Q2 NE HG
  have SB := Lib.hid (BaySet.plus s2_h11.out HS.out (by decide +kernel) (by decide +kernel))
  clear s2_h11 HS
  have S12 := Xm.size HX.out
  have sea_12 := Lib.hid (sea_11.out.xm HX.out (by omega))
  have pat_12 := Lib.hid (pat_11.out.xm HX.out (by omega))
  have res_12 := Lib.hid (res_11.out.xm HX.out (by omega))
  have s0_12 := Lib.hid (s0_11.out.xm HX.out (by omega))
  have s1_12 := Lib.hid (s1_11.out.xm HX.out (by omega))
  have to_12 := Lib.hid (to_h11.out.xm HX.out (by omega))
  have BB12 := Lib.hid (BB11.out.trans (Xm.below HX.out (B := w.heap.size) (by omega) (by omega)))
  clear sea_11 pat_11 res_11 s0_11 s1_11 to_h11 BB11
  clear HX
  have SB2 := SB
  clear SB
  have q12sea10 := HasO.cell (i := 10) sea_12.out rfl
  go_wp2_with fail
  rw [rounds_succ]
  clear hi0 hi1 hi2
  go_upto_region 15 with fail
  clear q12sea10
  obtain ⟨F, hF⟩ : ∃ Z, v2.heap.size = Z := ⟨_, rfl⟩
  obtain ⟨w13, hw13⟩ : ∃ Z, (v2.alloc (.cells #[.slice none 0 0, .slice none 0 0] 227)) = Z := ⟨_, rfl⟩
  have k13 : Below v2.heap.size v2 w13 := by rw [← hw13]; exact ((Below.refl _ _).alloc (Nat.le_refl _) _)
  have z13 : F < w13.heap.size := by rw [← hw13, ← hF]; simp
  have y13 : v2.heap.size = F := hF
  have from_13 : HasO w13 (F) (.cells #[.slice none 0 0, .slice none 0 0] 227 (0, 0)) := by rw [← hw13, ← hF]; have h := (HasO.new (w := v2) (o := .cells #[.slice none 0 0, .slice none 0 0] 227) rfl); simpa only [World.size_alloc] using h
  (try rw [hw13]); (try rw [hF])
  clear hw13 hF
  have S13 := k13.size
  have sea_13 := Lib.hid (sea_12.out.below k13)
  have pat_13 := Lib.hid (pat_12.out.below k13)
  have res_13 := Lib.hid (res_12.out.below k13)
  have s0_13 := Lib.hid (s0_12.out.below k13)
  have s1_13 := Lib.hid (s1_12.out.below k13)
  have to_13 := Lib.hid (to_12.out.below k13)
  have s2_13 := Lib.hid (SB2.out.below k13)
  have BB13 := Lib.hid (BB12.out.trans (k13.mono BB12.out.size))
  clear k13 sea_12 pat_12 res_12 s0_12 s1_12 to_12 SB2 BB12
  have fromH_13 := Lib.hid from_13
  clear from_13
  have q13sea0 := HasO.cell (i := 0) sea_13.out rfl
  have q13sea1 := HasO.cell (i := 1) sea_13.out rfl
  have q13sea2 := HasO.cell (i := 2) sea_13.out rfl
  have q13sea3 := HasO.cell (i := 3) sea_13.out rfl
  have q13sea4 := HasO.cell (i := 4) sea_13.out rfl
  have q13sea5 := HasO.cell (i := 5) sea_13.out rfl
  have q13sea6 := HasO.cell (i := 6) sea_13.out rfl
  have q13sea7 := HasO.cell (i := 7) sea_13.out rfl
  have q13sea8 := HasO.cell (i := 8) sea_13.out rfl
  have q13sea9 := HasO.cell (i := 9) sea_13.out rfl
  have q13sea10 := HasO.cell (i := 10) sea_13.out rfl
  go_wp2_with fail
  refine (waters_dn L lc b1 b2 _ (HB0.out.below BB13.out).1).mono ?_
  rintro e w14 ⟨⟨WA, wc2, rfl, hl⟩, hb14⟩
  have k14 : Below w13.heap.size w13 w14 := hb14
  clear hb14
  have S14 := k14.size
  have sea_14 := Lib.hid (sea_13.out.below k14)
  have pat_14 := Lib.hid (pat_13.out.below k14)
  have res_14 := Lib.hid (res_13.out.below k14)
  have s0_14 := Lib.hid (s0_13.out.below k14)
  have s1_14 := Lib.hid (s1_13.out.below k14)
  have to_14 := Lib.hid (to_13.out.below k14)
  have s2_14 := Lib.hid (s2_13.out.below k14)
  have from_14 := Lib.hid (fromH_13.out.below k14)
  have BB14 := Lib.hid (BB13.out.trans (k14.mono BB13.out.size))
  clear k14 sea_13 pat_13 res_13 s0_13 s1_13 to_13 s2_13 fromH_13 BB13
  clear q13sea0 q13sea1 q13sea2 q13sea3 q13sea4 q13sea5 q13sea6 q13sea7 q13sea8 q13sea9 q13sea10
  obtain ⟨Wb, Wo, rfl, hwl⟩ := watAt hl
  clear hl
  have neW : Wb ≠ F := WatAt.ne hwl from_14.out
  have zW := hwl.1
  have wl_h14 := Lib.hid (hwl)
  clear hwl
  go_wp2_with fail
  have hFB0 : FromB w14 F (gath 0) w14 := ⟨Xm.refl _ _, _, from_14.out, World.ownsRow_nil _ _ _ _⟩
  have zF := HasO.lt from_14.out
  clear from_14
  go_loopw [66] (fun i wr => ∃ k : Nat, k ≤ 20 ∧ i = .int .i64 k ∧ FromB w14 F (gath k) wr) (fun i _ => 20 - (intOf i).toNat)
  case atStart => exact ⟨0, by omega, rfl, hFB0⟩
  case round =>
    clear hFB0
    obtain ⟨k, hk, rfl, hfb⟩ := hrel
    have HFB := Lib.hid hfb
    clear hfb
    by_cases hlt : k < 20
    · have hkl : (k : Int) < 20 := by omega
      obtain ⟨⟨x, y⟩, hc⟩ : ∃ z, (wat 5 0)[k]? = some z := ⟨_, List.getElem?_eq_getElem (by rw [wat_n]; exact hlt)⟩
      have HC := Lib.hid (watC (List.mem_of_getElem? hc))
      have HGa := Lib.hid (gath_add hc)
      have hm := (WatAt.xm wl_h14.out HFB.out.xm neW).2 k x y hc
      obtain ⟨m0, m1⟩ := hm
      have zr := HFB.out.xm.size
      clear hc
      go_upto_region 18 with fail
      obtain ⟨K, hK⟩ : ∃ Z, wr.heap.size = Z := ⟨_, rfl⟩
      obtain ⟨wk, hwk⟩ : ∃ Z, wr.alloc (.cells #[.int .i64 x, .int .i64 y] 39) = Z := ⟨_, rfl⟩
      have hin0 : InB w14 F K x y (gath k) wk := by rw [← hK]; exact InB.start HFB.out hwk
      rw [hwk]
      rw [hK]
      rw [hK] at zr
      clear m0 m1 hwk hK
      go_wp2_with fail
      go_loopw [70] (fun i wq => (i = .int .i64 0 ∧ InB w14 F K x y (gath k) wq) ∨ (i = .int .i64 1 ∧ InB w14 F K x y (gath (k + 1)) wq) ∨ (i = .int .i64 2 ∧ InB w14 F K x y (gath (k + 1)) wq)) (fun i _ => 2 - (intOf i).toNat)
      case atStart => exact .inl ⟨rfl, hin0⟩
      case round =>
        clear hin0
        rcases hrel with ⟨rfl, hin⟩ | ⟨rfl, hin⟩ | ⟨rfl, hin⟩
        · have hcb := hin.cb
          have zq := hin.xm.size
          have zK := hcb.lt
          have HXi := Lib.hid hin.xm
          have S15 := Xm.size HXi.out
          have sea_15 := Lib.hid (sea_14.out.xm HXi.out (by omega))
          have pat_15 := Lib.hid (pat_14.out.xm HXi.out (by omega))
          have res_15 := Lib.hid (res_14.out.xm HXi.out (by omega))
          have s0_15 := Lib.hid (s0_14.out.xm HXi.out (by omega))
          have s1_15 := Lib.hid (s1_14.out.xm HXi.out (by omega))
          have to_15 := Lib.hid (to_14.out.xm HXi.out (by omega))
          have s2_15 := Lib.hid (s2_14.out.xm HXi.out (by omega))
          have wl_15 := Lib.hid (wl_h14.out.xm HXi.out (by omega))
          have BB15 := Lib.hid (BB14.out.trans (Xm.below HXi.out (B := w.heap.size) (by omega) (by omega)))
          clear sea_14 pat_14 res_14 s0_14 s1_14 to_14 s2_14 wl_h14 BB14
          clear HXi
          have cb_h15 := Lib.hid (hcb)
          have inb_h15 := Lib.hid (hin)
          clear hcb hin
          have q15sea0 := HasO.cell (i := 0) sea_15.out rfl
          have q15sea1 := HasO.cell (i := 1) sea_15.out rfl
          have q15sea2 := HasO.cell (i := 2) sea_15.out rfl
          have q15sea3 := HasO.cell (i := 3) sea_15.out rfl
          have q15sea4 := HasO.cell (i := 4) sea_15.out rfl
          have q15sea5 := HasO.cell (i := 5) sea_15.out rfl
          have q15sea6 := HasO.cell (i := 6) sea_15.out rfl
          have q15sea7 := HasO.cell (i := 7) sea_15.out rfl
          have q15sea8 := HasO.cell (i := 8) sea_15.out rfl
          have q15sea9 := HasO.cell (i := 9) sea_15.out rfl
          have q15sea10 := HasO.cell (i := 10) sea_15.out rfl
          have q15cb0 := HasO.cell (i := 0) cb_h15.out rfl
          have q15cb1 := HasO.cell (i := 1) cb_h15.out rfl
          go_wp2_with fail
          refine (push_dn 0 50 100 (.inl ⟨rfl, rfl, rfl⟩) L A lc b1 b2 ca x y 0 _ (HB0.out.below BB15.out) HC.out.ain (by decide)).mono ?_
          rintro e w16 ⟨rfl, hb16⟩
          have k16 : Below wr.heap.size wr w16 := hb16
          clear hb16
          have S16 := k16.size
          have sea_16 := Lib.hid (sea_15.out.below k16)
          have pat_16 := Lib.hid (pat_15.out.below k16)
          have res_16 := Lib.hid (res_15.out.below k16)
          have s0_16 := Lib.hid (s0_15.out.below k16)
          have s1_16 := Lib.hid (s1_15.out.below k16)
          have to_16 := Lib.hid (to_15.out.below k16)
          have s2_16 := Lib.hid (s2_15.out.below k16)
          have wl_16 := Lib.hid (wl_15.out.below k16)
          have cb_16 := Lib.hid (cb_h15.out.below k16)
          have inb_16 := Lib.hid (inb_h15.out.below k16)
          have BB16 := Lib.hid (BB15.out.trans (k16.mono BB15.out.size))
          clear k16 sea_15 pat_15 res_15 s0_15 s1_15 to_15 s2_15 wl_15 cb_h15 inb_h15 BB15
          clear q15sea0 q15sea1 q15sea2 q15sea3 q15sea4 q15sea5 q15sea6 q15sea7 q15sea8 q15sea9 q15sea10 q15cb0 q15cb1
          go_upto_region 22 with fail
          obtain ⟨U, hU⟩ : ∃ Z, w16.heap.size = Z := ⟨_, rfl⟩
          obtain ⟨w17, hw17⟩ : ∃ Z, (w16.alloc (.cells #[.int .i64 100, .int .i64 50, .int .i64 100, .int .i64 100] 28)) = Z := ⟨_, rfl⟩
          have k17 : Below w16.heap.size w16 w17 := by rw [← hw17]; exact ((Below.refl _ _).alloc (Nat.le_refl _) _)
          have z17 : U < w17.heap.size := by rw [← hw17, ← hU]; simp
          have y17 : w16.heap.size = U := hU
          have pb_17 : HasO w17 (U) (.cells #[.int .i64 100, .int .i64 50, .int .i64 100, .int .i64 100] 28 (0, 0)) := by rw [← hw17, ← hU]; have h := (HasO.new (w := w16) (o := .cells #[.int .i64 100, .int .i64 50, .int .i64 100, .int .i64 100] 28) rfl); simpa only [World.size_alloc] using h
          (try rw [hw17]); (try rw [hU])
          clear hw17 hU
          have S17 := k17.size
          have sea_17 := Lib.hid (sea_16.out.below k17)
          have pat_17 := Lib.hid (pat_16.out.below k17)
          have res_17 := Lib.hid (res_16.out.below k17)
          have s0_17 := Lib.hid (s0_16.out.below k17)
          have s1_17 := Lib.hid (s1_16.out.below k17)
          have to_17 := Lib.hid (to_16.out.below k17)
          have s2_17 := Lib.hid (s2_16.out.below k17)
          have wl_17 := Lib.hid (wl_16.out.below k17)
          have cb_17 := Lib.hid (cb_16.out.below k17)
          have inb_17 := Lib.hid (inb_16.out.below k17)
          have BB17 := Lib.hid (BB16.out.trans (k17.mono BB16.out.size))
          clear k17 sea_16 pat_16 res_16 s0_16 s1_16 to_16 s2_16 wl_16 cb_16 inb_16 BB16
          have pbH_17 := Lib.hid pb_17
          clear pb_17
          go_upto_region 24 with fail
          have lZ := HasO.lt sea_17.out
          have lK := HasO.lt cb_17.out
          have lU := HasO.lt pbH_17.out
          have lT := HasO.lt to_17.out
          have Q1 := Lib.hid (show Holds w17 [(Z, 0, .int .i64 5), (Z, 1, .int .i64 5), (Z, 2, .int .i64 100), (Z, 3, .slice L 5 lc), (Z, 4, .slice (some ⟨b1, 0, none⟩) 1 1), (Z, 5, .slice (some ⟨b2, 0, none⟩) 1 1), (Z, 6, .int .i64 20), (Z, 7, .int .i64 20), (Z, 8, .int .i64 10), (Z, 9, .int .i64 20), (Z, 10, .bool false), (K, 0, .int .i64 x), (K, 1, .int .i64 y), (U, 0, .int .i64 100), (U, 1, .int .i64 50), (U, 2, .int .i64 100), (U, 3, .int .i64 100), (T, 0, .map (some M0)), (T, 2, .map (some M2))] from (.cons lZ (HasO.cell (i := 0) sea_17.out rfl) (.cons lZ (HasO.cell (i := 1) sea_17.out rfl) (.cons lZ (HasO.cell (i := 2) sea_17.out rfl) (.cons lZ (HasO.cell (i := 3) sea_17.out rfl) (.cons lZ (HasO.cell (i := 4) sea_17.out rfl) (.cons lZ (HasO.cell (i := 5) sea_17.out rfl) (.cons lZ (HasO.cell (i := 6) sea_17.out rfl) (.cons lZ (HasO.cell (i := 7) sea_17.out rfl) (.cons lZ (HasO.cell (i := 8) sea_17.out rfl) (.cons lZ (HasO.cell (i := 9) sea_17.out rfl) (.cons lZ (HasO.cell (i := 10) sea_17.out rfl) (.cons lK (HasO.cell (i := 0) cb_17.out rfl) (.cons lK (HasO.cell (i := 1) cb_17.out rfl) (.cons lU (HasO.cell (i := 0) pbH_17.out rfl) (.cons lU (HasO.cell (i := 1) pbH_17.out rfl) (.cons lU (HasO.cell (i := 2) pbH_17.out rfl) (.cons lU (HasO.cell (i := 3) pbH_17.out rfl) (.cons lT (HasO.cell (i := 0) to_17.out rfl) (.cons lT (HasO.cell (i := 2) to_17.out rfl) (.nil _)))))))))))))))))))))
          clear lZ lK lU lT
          have HLr := Lib.hid (HB0.out.below BB17.out).1
          have HMa := Lib.hid (fun W (hW : Below w17.heap.size w17 W) => meets_a HC.out L lc b1 b2 M0 _ W (HLr.out.below hW) (BaySet.below s0_17.out hW))
          have HMn := Lib.hid (fun W (hW : Below w17.heap.size w17 W) => meets_n HC.out.bx HC.out.s0 L lc b1 b2 M2 _ W (HLr.out.below hW) (BaySet.below s2_17.out hW))
          have HSt := Lib.hid (fun W => still_s (lo := 50) (hi := 100) (slo := 0) (shi := 100) (by decide) (by decide) W)
          cases hgc : goodC (x, y) with
          | false =>
            have HMa := Lib.hid (fun W hW => (HMa.out W hW).mono (fun e w1 h => (show e = .returned (.bool false) ∧ Below W.heap.size W w1 from by rw [← hgc]; exact h)))
            have HGn := Lib.hid (show gath (k + 1) = gath k from by have h := HGa.out; rw [hgc, if_neg (by decide)] at h; exact h)
            clear hgc
            refine wp_region_noPanic ?_
            refine wp_region_held_drew (S := fun W' => W'.cell? ⟨Z, 0, none⟩ = some (.int .i64 5) ∧ W'.cell? ⟨Z, 1, none⟩ = some (.int .i64 5) ∧ W'.cell? ⟨Z, 2, none⟩ = some (.int .i64 100) ∧ W'.cell? ⟨Z, 3, none⟩ = some (.slice L 5 lc) ∧ W'.cell? ⟨Z, 4, none⟩ = some (.slice (some ⟨b1, 0, none⟩) 1 1) ∧ W'.cell? ⟨Z, 5, none⟩ = some (.slice (some ⟨b2, 0, none⟩) 1 1) ∧ W'.cell? ⟨Z, 6, none⟩ = some (.int .i64 20) ∧ W'.cell? ⟨Z, 7, none⟩ = some (.int .i64 20) ∧ W'.cell? ⟨Z, 8, none⟩ = some (.int .i64 10) ∧ W'.cell? ⟨Z, 9, none⟩ = some (.int .i64 20) ∧ W'.cell? ⟨Z, 10, none⟩ = some (.bool false) ∧ W'.cell? ⟨K, 0, none⟩ = some (.int .i64 x) ∧ W'.cell? ⟨K, 1, none⟩ = some (.int .i64 y) ∧ W'.cell? ⟨U, 0, none⟩ = some (.int .i64 100) ∧ W'.cell? ⟨U, 1, none⟩ = some (.int .i64 50) ∧ W'.cell? ⟨U, 2, none⟩ = some (.int .i64 100) ∧ W'.cell? ⟨U, 3, none⟩ = some (.int .i64 100) ∧ W'.cell? ⟨T, 0, none⟩ = some (.map (some M0)) ∧ W'.cell? ⟨T, 2, none⟩ = some (.map (some M2))) (by kernel_rfl) (holds19 (.drew Q1.out)) (fun hHeld => ?_)
            refine wpAnyH_take (i := 0) (oi := ({ dst := some 85, op := Op.load 165 (Operand.tmp 3), type := 165, pos := "back.go:57", after := #[], guard := none } : Oper)) (v := ?_) rfl (by kernel_rfl) (by kernel_rfl) (by kernel_rfl) (fun _ _ _ h => h) (Or.inl ⟨by rfl, ?_⟩) (by assumption) ?_
            rotate_left
            · ((intro w hSw; (try dsimp only at hSw); go_split_ands; go_simp); try with_reducible rfl)
            (try simp only [Act.put, List.setIfInBounds_toArray, List.set_cons_zero, List.set_cons_succ])
            refine wpAnyH_take (i := 1) (oi := ({ dst := some 86, op := Op.load 39 (Operand.tmp 14), type := 39, pos := "back.go:57", after := #[], guard := none } : Oper)) (v := ?_) rfl (by kernel_rfl) (by kernel_rfl) (by kernel_rfl) (fun _ _ _ h => h) (Or.inl ⟨by rfl, ?_⟩) (by assumption) ?_
            rotate_left
            · ((intro w hSw; (try dsimp only at hSw); go_split_ands; go_simp); try with_reducible rfl)
            (try simp only [Act.put, List.setIfInBounds_toArray, List.set_cons_zero, List.set_cons_succ])
            refine wpAnyH_take (i := 2) (oi := ({ dst := some 87, op := Op.load 28 (Operand.tmp 16), type := 28, pos := "back.go:57", after := #[], guard := none } : Oper)) (v := ?_) rfl (by kernel_rfl) (by kernel_rfl) (by kernel_rfl) (fun _ _ _ h => h) (Or.inl ⟨by rfl, ?_⟩) (by assumption) ?_
            rotate_left
            · ((intro w hSw; (try dsimp only at hSw); go_split_ands; go_simp); try with_reducible rfl)
            (try simp only [Act.put, List.setIfInBounds_toArray, List.set_cons_zero, List.set_cons_succ])
            refine wpAnyH_take (i := 3) (oi := ({ dst := some 88, op := Op.move (Operand.tmp 15), type := 3, pos := "back.go:57", after := #[], guard := none } : Oper)) (v := ?_) rfl (by kernel_rfl) (by kernel_rfl) (by kernel_rfl) (fun _ _ _ h => h) (Or.inl ⟨by rfl, ?_⟩) (by assumption) ?_
            rotate_left
            · ((intro w hSw; (try dsimp only at hSw); go_split_ands; go_simp); try with_reducible rfl)
            (try simp only [Act.put, List.setIfInBounds_toArray, List.set_cons_zero, List.set_cons_succ])
            refine wpAnyH_take (i := 4) (oi := ({ dst := some 89, op := Op.indexAddr 226 (Operand.tmp 9) (Operand.tmp 88), type := 0, pos := "back.go:57", after := #[{ on := 3, ground := Ground.data }], guard := none } : Oper)) (v := ?_) rfl (by kernel_rfl) (by kernel_rfl) (by kernel_rfl) (fun _ _ _ h => h) (Or.inl ⟨by rfl, ?_⟩) (by assumption) ?_
            rotate_left
            · ((intro w hSw; (try dsimp only at hSw); go_split_ands; go_simp); try with_reducible rfl)
            (try simp only [Act.put, List.setIfInBounds_toArray, List.set_cons_zero, List.set_cons_succ])
            refine wpAnyH_take (i := 5) (oi := ({ dst := some 90, op := Op.load 210 (Operand.tmp 89), type := 210, pos := "back.go:57", after := #[{ on := 4, ground := Ground.data }], guard := none } : Oper)) (v := ?_) rfl (by kernel_rfl) (by kernel_rfl) (by kernel_rfl) (fun _ _ _ h => h) (Or.inl ⟨by rfl, ?_⟩) (by assumption) ?_
            rotate_left
            · ((intro w hSw; (try dsimp only at hSw); go_split_ands; go_simp); try with_reducible rfl)
            (try simp only [Act.put, List.setIfInBounds_toArray, List.set_cons_zero, List.set_cons_succ])
            refine wpAnyH_ready (rs := [6]) (by kernel_rfl) (by simp) (AllReadyH.cons (o := ({ dst := some 91, op := Op.call { callee := Callee.value (Operand.func 148), args := #[Operand.tmp 85, Operand.tmp 86, Operand.tmp 87, Operand.tmp 90], argTypes := #[165, 39, 28, 210] }, type := 4, pos := "back.go:57", after := #[{ on := 0, ground := Ground.data }, { on := 1, ground := Ground.data }, { on := 2, ground := Ground.data }, { on := 5, ground := Ground.data }], guard := none } : Oper)) rfl (fun K hK => ?_) AllReadyH.nil)
            go_simp
            (go_at_call 148; (with_reducible refine (HMa.out _ (drewB _)).mono ?_); rintro e wa ⟨rfl, hba⟩)
            have kba : Below w17.heap.size w17 wa := below_of_drew hba
            have Q2 := Lib.hid (Q1.out.below kba)
            clear hba
            refine hK.out _ _ (holds19 Q2.out) (fun hHeld => ?_)
            clear hK K
            (try simp only [Act.put, List.setIfInBounds_toArray, List.set_cons_zero, List.set_cons_succ])
            refine wpAnyH_take (i := 7) (oi := ({ dst := some 92, op := Op.move (Operand.tmp 91), type := 4, pos := "back.go:57", after := #[{ on := 6, ground := Ground.data }, { on := 6, ground := Ground.chain }], guard := none } : Oper)) (v := ?_) rfl (by kernel_rfl) (by kernel_rfl) (by kernel_rfl) (fun _ _ _ h => h) (Or.inl ⟨by rfl, ?_⟩) (by assumption) ?_
            rotate_left
            · ((intro w hSw; (try dsimp only at hSw); go_split_ands; go_simp); try with_reducible rfl)
            (try simp only [Act.put, List.setIfInBounds_toArray, List.set_cons_zero, List.set_cons_succ])
            refine wpAnyH_take (i := 8) (oi := ({ dst := some 93, op := Op.load 165 (Operand.tmp 3), type := 165, pos := "back.go:57", after := #[{ on := 7, ground := Ground.guard }], guard := some (7, false) } : Oper)) (v := ?_) rfl (by kernel_rfl) (by kernel_rfl) (by kernel_rfl) (fun _ _ _ h => h) (Or.inl ⟨by rfl, ?_⟩) (by assumption) ?_
            rotate_left
            · ((intro w hSw; (try dsimp only at hSw); go_split_ands; go_simp); try with_reducible rfl)
            (try simp only [Act.put, List.setIfInBounds_toArray, List.set_cons_zero, List.set_cons_succ])
            refine wpAnyH_take (i := 9) (oi := ({ dst := some 94, op := Op.load 39 (Operand.tmp 14), type := 39, pos := "back.go:57", after := #[{ on := 7, ground := Ground.guard }], guard := some (7, false) } : Oper)) (v := ?_) rfl (by kernel_rfl) (by kernel_rfl) (by kernel_rfl) (fun _ _ _ h => h) (Or.inl ⟨by rfl, ?_⟩) (by assumption) ?_
            rotate_left
            · ((intro w hSw; (try dsimp only at hSw); go_split_ands; go_simp); try with_reducible rfl)
            (try simp only [Act.put, List.setIfInBounds_toArray, List.set_cons_zero, List.set_cons_succ])
            refine wpAnyH_take (i := 10) (oi := ({ dst := some 95, op := Op.load 28 (Operand.tmp 16), type := 28, pos := "back.go:57", after := #[{ on := 7, ground := Ground.guard }], guard := some (7, false) } : Oper)) (v := ?_) rfl (by kernel_rfl) (by kernel_rfl) (by kernel_rfl) (fun _ _ _ h => h) (Or.inl ⟨by rfl, ?_⟩) (by assumption) ?_
            rotate_left
            · ((intro w hSw; (try dsimp only at hSw); go_split_ands; go_simp); try with_reducible rfl)
            (try simp only [Act.put, List.setIfInBounds_toArray, List.set_cons_zero, List.set_cons_succ])
            refine wpAnyH_take (i := 12) (oi := ({ dst := some 97, op := Op.indexAddr 226 (Operand.tmp 9) (Operand.const (Value.int IntKind.i64 2)), type := 0, pos := "back.go:57", after := #[{ on := 7, ground := Ground.guard }], guard := some (7, false) } : Oper)) (v := ?_) rfl (by kernel_rfl) (by kernel_rfl) (by kernel_rfl) (fun _ _ _ h => h) (Or.inl ⟨by rfl, ?_⟩) (by assumption) ?_
            rotate_left
            · ((intro w hSw; (try dsimp only at hSw); go_split_ands; go_simp); try with_reducible rfl)
            (try simp only [Act.put, List.setIfInBounds_toArray, List.set_cons_zero, List.set_cons_succ])
            refine wpAnyH_take (i := 13) (oi := ({ dst := some 98, op := Op.load 210 (Operand.tmp 97), type := 210, pos := "back.go:57", after := #[{ on := 12, ground := Ground.data }, { on := 7, ground := Ground.guard }], guard := some (7, false) } : Oper)) (v := ?_) rfl (by kernel_rfl) (by kernel_rfl) (by kernel_rfl) (fun _ _ _ h => h) (Or.inl ⟨by rfl, ?_⟩) (by assumption) ?_
            rotate_left
            · ((intro w hSw; (try dsimp only at hSw); go_split_ands; go_simp); try with_reducible rfl)
            (try simp only [Act.put, List.setIfInBounds_toArray, List.set_cons_zero, List.set_cons_succ])
            refine wpAnyH_ready (rs := [11]) (by kernel_rfl) (by simp) (AllReadyH.cons (o := ({ dst := some 96, op := Op.call { callee := Callee.value (Operand.func 142), args := #[Operand.tmp 95], argTypes := #[28] }, type := 28, pos := "back.go:57", after := #[{ on := 10, ground := Ground.data }, { on := 7, ground := Ground.chain }, { on := 7, ground := Ground.guard }], guard := some (7, false) } : Oper)) rfl (fun K hK => ?_) AllReadyH.nil)
            go_simp
            (go_at_call 142; (with_reducible refine (HSt.out _).mono ?_); rintro e wb ⟨rfl, hbb⟩)
            have kbb : Below w17.heap.size w17 wb := kba.trans (hbb.mono kba.size)
            have Q3 := Lib.hid (Q2.out.below hbb)
            clear hbb
            refine hK.out _ _ (holds19 Q3.out) (fun hHeld => ?_)
            clear hK K
            (try simp only [Act.put, List.setIfInBounds_toArray, List.set_cons_zero, List.set_cons_succ])
            refine wpAnyH_ready (rs := [14]) (by kernel_rfl) (by simp) (AllReadyH.cons (o := ({ dst := some 99, op := Op.call { callee := Callee.value (Operand.func 148), args := #[Operand.tmp 93, Operand.tmp 94, Operand.tmp 96, Operand.tmp 98], argTypes := #[165, 39, 28, 210] }, type := 4, pos := "back.go:57", after := #[{ on := 8, ground := Ground.data }, { on := 9, ground := Ground.data }, { on := 11, ground := Ground.data }, { on := 13, ground := Ground.data }, { on := 11, ground := Ground.chain }, { on := 7, ground := Ground.guard }], guard := some (7, false) } : Oper)) rfl (fun K hK => ?_) AllReadyH.nil)
            go_simp
            (go_at_call 148; (with_reducible refine (HMn.out _ kbb).mono ?_); rintro e wd ⟨rfl, hbd⟩)
            have kbd : Below w17.heap.size w17 wd := kbb.trans (hbd.mono kbb.size)
            have Q4 := Lib.hid (Q3.out.below hbd)
            clear hbd
            refine hK.out _ _ (holds19 Q4.out) (fun hHeld => ?_)
            clear hK K
            (try simp only [Act.put, List.setIfInBounds_toArray, List.set_cons_zero, List.set_cons_succ])
            refine wpAnyH_take (i := 15) (oi := ({ dst := some 100, op := Op.pick (Operand.tmp 92) (Operand.const (Value.bool true)) (Operand.tmp 99), type := 4, pos := "back.go:57", after := #[{ on := 7, ground := Ground.data }, { on := 14, ground := Ground.data }], guard := none } : Oper)) (v := ?_) rfl (by kernel_rfl) (by kernel_rfl) (by kernel_rfl) (fun _ _ _ h => h) (Or.inl ⟨by rfl, ?_⟩) (by assumption) ?_
            rotate_left
            · ((intro w hSw; (try dsimp only at hSw); go_split_ands; go_simp); try with_reducible rfl)
            (try simp only [Act.put, List.setIfInBounds_toArray, List.set_cons_zero, List.set_cons_succ])
            refine wpAnyH_done (by kernel_rfl) ?_ _
            refine NoPanic.normal ?_
            clear hHeld
            have HI := Lib.hid (InB.below inb_17.out kbd)
            clear Q1 Q2 Q3 Q4 HMa HMn HSt HLr kba kbb
            go_wp2_with fail
            go_roundw
            case rel => exact .inr (.inl ⟨rfl, by rw [HGn.out]; exact HI.out⟩)
            case measure => simp [intOf]
          | true =>
            have HMa := Lib.hid (fun W hW => (HMa.out W hW).mono (fun e w1 h => (show e = .returned (.bool true) ∧ Below W.heap.size W w1 from by rw [← hgc]; exact h)))
            have HGn := Lib.hid (show gath (k + 1) = gath k ++ [(x, y)] from by have h := HGa.out; rw [hgc, if_pos rfl] at h; exact h)
            clear hgc
            refine wp_region_noPanic ?_
            refine wp_region_held_drew (S := fun W' => W'.cell? ⟨Z, 0, none⟩ = some (.int .i64 5) ∧ W'.cell? ⟨Z, 1, none⟩ = some (.int .i64 5) ∧ W'.cell? ⟨Z, 2, none⟩ = some (.int .i64 100) ∧ W'.cell? ⟨Z, 3, none⟩ = some (.slice L 5 lc) ∧ W'.cell? ⟨Z, 4, none⟩ = some (.slice (some ⟨b1, 0, none⟩) 1 1) ∧ W'.cell? ⟨Z, 5, none⟩ = some (.slice (some ⟨b2, 0, none⟩) 1 1) ∧ W'.cell? ⟨Z, 6, none⟩ = some (.int .i64 20) ∧ W'.cell? ⟨Z, 7, none⟩ = some (.int .i64 20) ∧ W'.cell? ⟨Z, 8, none⟩ = some (.int .i64 10) ∧ W'.cell? ⟨Z, 9, none⟩ = some (.int .i64 20) ∧ W'.cell? ⟨Z, 10, none⟩ = some (.bool false) ∧ W'.cell? ⟨K, 0, none⟩ = some (.int .i64 x) ∧ W'.cell? ⟨K, 1, none⟩ = some (.int .i64 y) ∧ W'.cell? ⟨U, 0, none⟩ = some (.int .i64 100) ∧ W'.cell? ⟨U, 1, none⟩ = some (.int .i64 50) ∧ W'.cell? ⟨U, 2, none⟩ = some (.int .i64 100) ∧ W'.cell? ⟨U, 3, none⟩ = some (.int .i64 100) ∧ W'.cell? ⟨T, 0, none⟩ = some (.map (some M0)) ∧ W'.cell? ⟨T, 2, none⟩ = some (.map (some M2))) (by kernel_rfl) (holds19 (.drew Q1.out)) (fun hHeld => ?_)
            refine wpAnyH_take (i := 0) (oi := ({ dst := some 85, op := Op.load 165 (Operand.tmp 3), type := 165, pos := "back.go:57", after := #[], guard := none } : Oper)) (v := ?_) rfl (by kernel_rfl) (by kernel_rfl) (by kernel_rfl) (fun _ _ _ h => h) (Or.inl ⟨by rfl, ?_⟩) (by assumption) ?_
            rotate_left
            · ((intro w hSw; (try dsimp only at hSw); go_split_ands; go_simp); try with_reducible rfl)
            (try simp only [Act.put, List.setIfInBounds_toArray, List.set_cons_zero, List.set_cons_succ])
            refine wpAnyH_take (i := 1) (oi := ({ dst := some 86, op := Op.load 39 (Operand.tmp 14), type := 39, pos := "back.go:57", after := #[], guard := none } : Oper)) (v := ?_) rfl (by kernel_rfl) (by kernel_rfl) (by kernel_rfl) (fun _ _ _ h => h) (Or.inl ⟨by rfl, ?_⟩) (by assumption) ?_
            rotate_left
            · ((intro w hSw; (try dsimp only at hSw); go_split_ands; go_simp); try with_reducible rfl)
            (try simp only [Act.put, List.setIfInBounds_toArray, List.set_cons_zero, List.set_cons_succ])
            refine wpAnyH_take (i := 2) (oi := ({ dst := some 87, op := Op.load 28 (Operand.tmp 16), type := 28, pos := "back.go:57", after := #[], guard := none } : Oper)) (v := ?_) rfl (by kernel_rfl) (by kernel_rfl) (by kernel_rfl) (fun _ _ _ h => h) (Or.inl ⟨by rfl, ?_⟩) (by assumption) ?_
            rotate_left
            · ((intro w hSw; (try dsimp only at hSw); go_split_ands; go_simp); try with_reducible rfl)
            (try simp only [Act.put, List.setIfInBounds_toArray, List.set_cons_zero, List.set_cons_succ])
            refine wpAnyH_take (i := 3) (oi := ({ dst := some 88, op := Op.move (Operand.tmp 15), type := 3, pos := "back.go:57", after := #[], guard := none } : Oper)) (v := ?_) rfl (by kernel_rfl) (by kernel_rfl) (by kernel_rfl) (fun _ _ _ h => h) (Or.inl ⟨by rfl, ?_⟩) (by assumption) ?_
            rotate_left
            · ((intro w hSw; (try dsimp only at hSw); go_split_ands; go_simp); try with_reducible rfl)
            (try simp only [Act.put, List.setIfInBounds_toArray, List.set_cons_zero, List.set_cons_succ])
            refine wpAnyH_take (i := 4) (oi := ({ dst := some 89, op := Op.indexAddr 226 (Operand.tmp 9) (Operand.tmp 88), type := 0, pos := "back.go:57", after := #[{ on := 3, ground := Ground.data }], guard := none } : Oper)) (v := ?_) rfl (by kernel_rfl) (by kernel_rfl) (by kernel_rfl) (fun _ _ _ h => h) (Or.inl ⟨by rfl, ?_⟩) (by assumption) ?_
            rotate_left
            · ((intro w hSw; (try dsimp only at hSw); go_split_ands; go_simp); try with_reducible rfl)
            (try simp only [Act.put, List.setIfInBounds_toArray, List.set_cons_zero, List.set_cons_succ])
            refine wpAnyH_take (i := 5) (oi := ({ dst := some 90, op := Op.load 210 (Operand.tmp 89), type := 210, pos := "back.go:57", after := #[{ on := 4, ground := Ground.data }], guard := none } : Oper)) (v := ?_) rfl (by kernel_rfl) (by kernel_rfl) (by kernel_rfl) (fun _ _ _ h => h) (Or.inl ⟨by rfl, ?_⟩) (by assumption) ?_
            rotate_left
            · ((intro w hSw; (try dsimp only at hSw); go_split_ands; go_simp); try with_reducible rfl)
            (try simp only [Act.put, List.setIfInBounds_toArray, List.set_cons_zero, List.set_cons_succ])
            refine wpAnyH_ready (rs := [6]) (by kernel_rfl) (by simp) (AllReadyH.cons (o := ({ dst := some 91, op := Op.call { callee := Callee.value (Operand.func 148), args := #[Operand.tmp 85, Operand.tmp 86, Operand.tmp 87, Operand.tmp 90], argTypes := #[165, 39, 28, 210] }, type := 4, pos := "back.go:57", after := #[{ on := 0, ground := Ground.data }, { on := 1, ground := Ground.data }, { on := 2, ground := Ground.data }, { on := 5, ground := Ground.data }], guard := none } : Oper)) rfl (fun K hK => ?_) AllReadyH.nil)
            go_simp
            (go_at_call 148; (with_reducible refine (HMa.out _ (drewB _)).mono ?_); rintro e wa ⟨rfl, hba⟩)
            have kba : Below w17.heap.size w17 wa := below_of_drew hba
            have Q2 := Lib.hid (Q1.out.below kba)
            clear hba
            refine hK.out _ _ (holds19 Q2.out) (fun hHeld => ?_)
            clear hK K
            (try simp only [Act.put, List.setIfInBounds_toArray, List.set_cons_zero, List.set_cons_succ])
            refine wpAnyH_take (i := 7) (oi := ({ dst := some 92, op := Op.move (Operand.tmp 91), type := 4, pos := "back.go:57", after := #[{ on := 6, ground := Ground.data }, { on := 6, ground := Ground.chain }], guard := none } : Oper)) (v := ?_) rfl (by kernel_rfl) (by kernel_rfl) (by kernel_rfl) (fun _ _ _ h => h) (Or.inl ⟨by rfl, ?_⟩) (by assumption) ?_
            rotate_left
            · ((intro w hSw; (try dsimp only at hSw); go_split_ands; go_simp); try with_reducible rfl)
            (try simp only [Act.put, List.setIfInBounds_toArray, List.set_cons_zero, List.set_cons_succ])
            refine wpAnyH_take (i := 8) (oi := ({ dst := some 93, op := Op.load 165 (Operand.tmp 3), type := 165, pos := "back.go:57", after := #[{ on := 7, ground := Ground.guard }], guard := some (7, false) } : Oper)) (v := undef) rfl (by kernel_rfl) (by kernel_rfl) (by kernel_rfl) (fun _ _ _ h => h) (Or.inr ⟨by rfl, rfl⟩) (by assumption) ?_
            (try simp only [Act.put, List.setIfInBounds_toArray, List.set_cons_zero, List.set_cons_succ])
            refine wpAnyH_take (i := 9) (oi := ({ dst := some 94, op := Op.load 39 (Operand.tmp 14), type := 39, pos := "back.go:57", after := #[{ on := 7, ground := Ground.guard }], guard := some (7, false) } : Oper)) (v := undef) rfl (by kernel_rfl) (by kernel_rfl) (by kernel_rfl) (fun _ _ _ h => h) (Or.inr ⟨by rfl, rfl⟩) (by assumption) ?_
            (try simp only [Act.put, List.setIfInBounds_toArray, List.set_cons_zero, List.set_cons_succ])
            refine wpAnyH_take (i := 10) (oi := ({ dst := some 95, op := Op.load 28 (Operand.tmp 16), type := 28, pos := "back.go:57", after := #[{ on := 7, ground := Ground.guard }], guard := some (7, false) } : Oper)) (v := undef) rfl (by kernel_rfl) (by kernel_rfl) (by kernel_rfl) (fun _ _ _ h => h) (Or.inr ⟨by rfl, rfl⟩) (by assumption) ?_
            (try simp only [Act.put, List.setIfInBounds_toArray, List.set_cons_zero, List.set_cons_succ])
            refine wpAnyH_take (i := 12) (oi := ({ dst := some 97, op := Op.indexAddr 226 (Operand.tmp 9) (Operand.const (Value.int IntKind.i64 2)), type := 0, pos := "back.go:57", after := #[{ on := 7, ground := Ground.guard }], guard := some (7, false) } : Oper)) (v := undef) rfl (by kernel_rfl) (by kernel_rfl) (by kernel_rfl) (fun _ _ _ h => h) (Or.inr ⟨by rfl, rfl⟩) (by assumption) ?_
            (try simp only [Act.put, List.setIfInBounds_toArray, List.set_cons_zero, List.set_cons_succ])
            refine wpAnyH_take (i := 13) (oi := ({ dst := some 98, op := Op.load 210 (Operand.tmp 97), type := 210, pos := "back.go:57", after := #[{ on := 12, ground := Ground.data }, { on := 7, ground := Ground.guard }], guard := some (7, false) } : Oper)) (v := undef) rfl (by kernel_rfl) (by kernel_rfl) (by kernel_rfl) (fun _ _ _ h => h) (Or.inr ⟨by rfl, rfl⟩) (by assumption) ?_
            (try simp only [Act.put, List.setIfInBounds_toArray, List.set_cons_zero, List.set_cons_succ])
            refine wpAnyH_ready (rs := [11]) (by kernel_rfl) (by simp) (AllReadyH.cons (o := ({ dst := some 96, op := Op.call { callee := Callee.value (Operand.func 142), args := #[Operand.tmp 95], argTypes := #[28] }, type := 28, pos := "back.go:57", after := #[{ on := 10, ground := Ground.data }, { on := 7, ground := Ground.chain }, { on := 7, ground := Ground.guard }], guard := some (7, false) } : Oper)) rfl (fun K hK => ?_) AllReadyH.nil)
            go_simp
            refine hK.out _ _ (holds19 Q2.out) (fun hHeld => ?_)
            clear hK K
            (try simp only [Act.put, List.setIfInBounds_toArray, List.set_cons_zero, List.set_cons_succ])
            refine wpAnyH_ready (rs := [14]) (by kernel_rfl) (by simp) (AllReadyH.cons (o := ({ dst := some 99, op := Op.call { callee := Callee.value (Operand.func 148), args := #[Operand.tmp 93, Operand.tmp 94, Operand.tmp 96, Operand.tmp 98], argTypes := #[165, 39, 28, 210] }, type := 4, pos := "back.go:57", after := #[{ on := 8, ground := Ground.data }, { on := 9, ground := Ground.data }, { on := 11, ground := Ground.data }, { on := 13, ground := Ground.data }, { on := 11, ground := Ground.chain }, { on := 7, ground := Ground.guard }], guard := some (7, false) } : Oper)) rfl (fun K hK => ?_) AllReadyH.nil)
            go_simp
            refine hK.out _ _ (holds19 Q2.out) (fun hHeld => ?_)
            clear hK K
            (try simp only [Act.put, List.setIfInBounds_toArray, List.set_cons_zero, List.set_cons_succ])
            refine wpAnyH_take (i := 15) (oi := ({ dst := some 100, op := Op.pick (Operand.tmp 92) (Operand.const (Value.bool true)) (Operand.tmp 99), type := 4, pos := "back.go:57", after := #[{ on := 7, ground := Ground.data }, { on := 14, ground := Ground.data }], guard := none } : Oper)) (v := ?_) rfl (by kernel_rfl) (by kernel_rfl) (by kernel_rfl) (fun _ _ _ h => h) (Or.inl ⟨by rfl, ?_⟩) (by assumption) ?_
            rotate_left
            · ((intro w hSw; (try dsimp only at hSw); go_split_ands; go_simp); try with_reducible rfl)
            (try simp only [Act.put, List.setIfInBounds_toArray, List.set_cons_zero, List.set_cons_succ])
            refine wpAnyH_done (by kernel_rfl) ?_ _
            refine NoPanic.normal ?_
            clear hHeld
            obtain ⟨hxf, hcb, v, hF, hown, hne⟩ := InB.below inb_17.out kba
            clear Q1 Q2 HMa HMn HSt HLr
            have za := kba.size
            have hFl := hF.lt
            have hKl := hcb.lt
            have hvF : v.ownBlock ≠ some F := fun e => by have := (ownBlock_lt hown e).1; omega
            have q0 := HasO.cell (i := 0) hF rfl
            have qf := HasO.frozen (i := 0) hF
            have p0 := HasO.cell (i := 0) hcb rfl
            have p1 := HasO.cell (i := 1) hcb rfl
            have hgl := gath_len k
            obtain ⟨m, hm⟩ : ∃ m, (gath k).length = m := ⟨_, rfl⟩
            have HXf := Lib.hid hxf
            have HCb := Lib.hid hcb
            have HF := Lib.hid hF
            have HOw := Lib.hid hown
            have HNe := Lib.hid hne
            have HM := Lib.hid hm
            rw [hm] at hown hgl
            clear hxf hcb hF hne hm
            obtain ⟨i0, hi, hz0, hz1, hz2⟩ := info_parts infoC
            go_upto_region 25 with fail
            go_region_law (first | (refine step_append_lies _ (by rfl) _ _ _ (by rfl) w14.heap.size 39 i0 _ 2 16 Try.underlying36 hi hz0 hz1 hz2 rfl (by omega) v m (flatE encC (gath k)) (by rfl) (hown.drew.alloc _) ⟨wa.heap.size, 0, none⟩ 1 1 [.int .i64 x, .int .i64 y] (by rfl) (by rfl) (World.news_of_block (cs := #[.int .i64 x, .int .i64 y]) (t := 39) (fr := (0, 0)) (heap_alloc_new wa.drew _)) (by simp [Value.oneCell']) (by omega) (by unfold maxLen; omega) (by omega) (by simp; omega) (wa.heap.size + 1) (by simp) ?_; intro gg cap w7 hown7 hg7 hat7 hlt7; have hkc : w7.cell? ⟨F, 0, none⟩ = some v := (hg7.cell_far ⟨F, 0, none⟩ (by simp; omega) hvF.symm).trans ((World.cell?_alloc_lt wa _ ⟨F, 0, none⟩ hFl).trans q0); have hkf : w7.frozen? ⟨F, 0, none⟩ = false := (hg7.frozen_far ⟨F, 0, none⟩ (by simp; omega) hvF.symm).trans ((frozenAllocLt wa _ ⟨F, 0, none⟩ hFl).trans qf)))
            all_goals
              have hput := Lib.hid (InB.put HXf.out HCb.out HF.out HOw.out HNe.out (by omega) (by rw [HM.out]; exact hown7) (show (wa.alloc (.cells #[.int .i64 x, .int .i64 y] 39)).grownBy w7 v.ownBlock from ⟨hg7.os, hg7.tape, hg7.output, hg7.size, hg7.block⟩) (by rcases hat7 with h | h; exact .inl h.symm; exact .inr (by rw [h]; rfl)))
              clear hown7 hg7 hat7 hown q0 qf p0 p1
              go_wp2_with fail
              go_roundw
              case rel => exact .inr (.inl ⟨rfl, by rw [HGn.out]; exact hput.out⟩)
              case measure => simp [intOf]
        · have hcb := hin.cb
          have zq := hin.xm.size
          have zK := hcb.lt
          have HXi := Lib.hid hin.xm
          have S18 := Xm.size HXi.out
          have sea_18 := Lib.hid (sea_14.out.xm HXi.out (by omega))
          have pat_18 := Lib.hid (pat_14.out.xm HXi.out (by omega))
          have res_18 := Lib.hid (res_14.out.xm HXi.out (by omega))
          have s0_18 := Lib.hid (s0_14.out.xm HXi.out (by omega))
          have s1_18 := Lib.hid (s1_14.out.xm HXi.out (by omega))
          have to_18 := Lib.hid (to_14.out.xm HXi.out (by omega))
          have s2_18 := Lib.hid (s2_14.out.xm HXi.out (by omega))
          have wl_18 := Lib.hid (wl_h14.out.xm HXi.out (by omega))
          have BB18 := Lib.hid (BB14.out.trans (Xm.below HXi.out (B := w.heap.size) (by omega) (by omega)))
          clear sea_14 pat_14 res_14 s0_14 s1_14 to_14 s2_14 wl_h14 BB14
          clear HXi
          have cb_h18 := Lib.hid (hcb)
          have inb_h18 := Lib.hid (hin)
          clear hcb hin
          have q18sea0 := HasO.cell (i := 0) sea_18.out rfl
          have q18sea1 := HasO.cell (i := 1) sea_18.out rfl
          have q18sea2 := HasO.cell (i := 2) sea_18.out rfl
          have q18sea3 := HasO.cell (i := 3) sea_18.out rfl
          have q18sea4 := HasO.cell (i := 4) sea_18.out rfl
          have q18sea5 := HasO.cell (i := 5) sea_18.out rfl
          have q18sea6 := HasO.cell (i := 6) sea_18.out rfl
          have q18sea7 := HasO.cell (i := 7) sea_18.out rfl
          have q18sea8 := HasO.cell (i := 8) sea_18.out rfl
          have q18sea9 := HasO.cell (i := 9) sea_18.out rfl
          have q18sea10 := HasO.cell (i := 10) sea_18.out rfl
          have q18cb0 := HasO.cell (i := 0) cb_h18.out rfl
          have q18cb1 := HasO.cell (i := 1) cb_h18.out rfl
          go_wp2_with fail
          refine (push_dn 1 (-100) (-50) (.inr ⟨rfl, rfl, rfl⟩) L A lc b1 b2 ca x y 0 _ (HB0.out.below BB18.out) HC.out.ain (by decide)).mono ?_
          rintro e w19 ⟨rfl, hb19⟩
          have k19 : Below wr.heap.size wr w19 := hb19
          clear hb19
          have S19 := k19.size
          have sea_19 := Lib.hid (sea_18.out.below k19)
          have pat_19 := Lib.hid (pat_18.out.below k19)
          have res_19 := Lib.hid (res_18.out.below k19)
          have s0_19 := Lib.hid (s0_18.out.below k19)
          have s1_19 := Lib.hid (s1_18.out.below k19)
          have to_19 := Lib.hid (to_18.out.below k19)
          have s2_19 := Lib.hid (s2_18.out.below k19)
          have wl_19 := Lib.hid (wl_18.out.below k19)
          have cb_19 := Lib.hid (cb_h18.out.below k19)
          have inb_19 := Lib.hid (inb_h18.out.below k19)
          have BB19 := Lib.hid (BB18.out.trans (k19.mono BB18.out.size))
          clear k19 sea_18 pat_18 res_18 s0_18 s1_18 to_18 s2_18 wl_18 cb_h18 inb_h18 BB18
          clear q18sea0 q18sea1 q18sea2 q18sea3 q18sea4 q18sea5 q18sea6 q18sea7 q18sea8 q18sea9 q18sea10 q18cb0 q18cb1
          go_upto_region 22 with fail
          obtain ⟨U, hU⟩ : ∃ Z, w19.heap.size = Z := ⟨_, rfl⟩
          obtain ⟨w20, hw20⟩ : ∃ Z, (w19.alloc (.cells #[.int .i64 100, .int .i64 (-100), .int .i64 100, .int .i64 (-50)] 28)) = Z := ⟨_, rfl⟩
          have k20 : Below w19.heap.size w19 w20 := by rw [← hw20]; exact ((Below.refl _ _).alloc (Nat.le_refl _) _)
          have z20 : U < w20.heap.size := by rw [← hw20, ← hU]; simp
          have y20 : w19.heap.size = U := hU
          have pb_20 : HasO w20 (U) (.cells #[.int .i64 100, .int .i64 (-100), .int .i64 100, .int .i64 (-50)] 28 (0, 0)) := by rw [← hw20, ← hU]; have h := (HasO.new (w := w19) (o := .cells #[.int .i64 100, .int .i64 (-100), .int .i64 100, .int .i64 (-50)] 28) rfl); simpa only [World.size_alloc] using h
          (try rw [hw20]); (try rw [hU])
          clear hw20 hU
          have S20 := k20.size
          have sea_20 := Lib.hid (sea_19.out.below k20)
          have pat_20 := Lib.hid (pat_19.out.below k20)
          have res_20 := Lib.hid (res_19.out.below k20)
          have s0_20 := Lib.hid (s0_19.out.below k20)
          have s1_20 := Lib.hid (s1_19.out.below k20)
          have to_20 := Lib.hid (to_19.out.below k20)
          have s2_20 := Lib.hid (s2_19.out.below k20)
          have wl_20 := Lib.hid (wl_19.out.below k20)
          have cb_20 := Lib.hid (cb_19.out.below k20)
          have inb_20 := Lib.hid (inb_19.out.below k20)
          have BB20 := Lib.hid (BB19.out.trans (k20.mono BB19.out.size))
          clear k20 sea_19 pat_19 res_19 s0_19 s1_19 to_19 s2_19 wl_19 cb_19 inb_19 BB19
          have pbH_20 := Lib.hid pb_20
          clear pb_20
          go_upto_region 24 with fail
          have lZ := HasO.lt sea_20.out
          have lK := HasO.lt cb_20.out
          have lU := HasO.lt pbH_20.out
          have lT := HasO.lt to_20.out
          have Q1 := Lib.hid (show Holds w20 [(Z, 0, .int .i64 5), (Z, 1, .int .i64 5), (Z, 2, .int .i64 100), (Z, 3, .slice L 5 lc), (Z, 4, .slice (some ⟨b1, 0, none⟩) 1 1), (Z, 5, .slice (some ⟨b2, 0, none⟩) 1 1), (Z, 6, .int .i64 20), (Z, 7, .int .i64 20), (Z, 8, .int .i64 10), (Z, 9, .int .i64 20), (Z, 10, .bool false), (K, 0, .int .i64 x), (K, 1, .int .i64 y), (U, 0, .int .i64 100), (U, 1, .int .i64 (-100)), (U, 2, .int .i64 100), (U, 3, .int .i64 (-50)), (T, 1, .map (some M1)), (T, 2, .map (some M2))] from (.cons lZ (HasO.cell (i := 0) sea_20.out rfl) (.cons lZ (HasO.cell (i := 1) sea_20.out rfl) (.cons lZ (HasO.cell (i := 2) sea_20.out rfl) (.cons lZ (HasO.cell (i := 3) sea_20.out rfl) (.cons lZ (HasO.cell (i := 4) sea_20.out rfl) (.cons lZ (HasO.cell (i := 5) sea_20.out rfl) (.cons lZ (HasO.cell (i := 6) sea_20.out rfl) (.cons lZ (HasO.cell (i := 7) sea_20.out rfl) (.cons lZ (HasO.cell (i := 8) sea_20.out rfl) (.cons lZ (HasO.cell (i := 9) sea_20.out rfl) (.cons lZ (HasO.cell (i := 10) sea_20.out rfl) (.cons lK (HasO.cell (i := 0) cb_20.out rfl) (.cons lK (HasO.cell (i := 1) cb_20.out rfl) (.cons lU (HasO.cell (i := 0) pbH_20.out rfl) (.cons lU (HasO.cell (i := 1) pbH_20.out rfl) (.cons lU (HasO.cell (i := 2) pbH_20.out rfl) (.cons lU (HasO.cell (i := 3) pbH_20.out rfl) (.cons lT (HasO.cell (i := 1) to_20.out rfl) (.cons lT (HasO.cell (i := 2) to_20.out rfl) (.nil _)))))))))))))))))))))
          clear lZ lK lU lT
          have HLr := Lib.hid (HB0.out.below BB20.out).1
          have HMa := Lib.hid (fun W (hW : Below w20.heap.size w20 W) => meets_n HC.out.bx HC.out.p1 L lc b1 b2 M1 _ W (HLr.out.below hW) (BaySet.below s1_20.out hW))
          have HMn := Lib.hid (fun W (hW : Below w20.heap.size w20 W) => meets_n HC.out.bx HC.out.s1 L lc b1 b2 M2 _ W (HLr.out.below hW) (BaySet.below s2_20.out hW))
          have HSt := Lib.hid (fun W => still_s (lo := (-100)) (hi := (-50)) (slo := (-100)) (shi := 0) (by decide) (by decide) W)
          refine wp_region_noPanic ?_
          refine wp_region_held_drew (S := fun W' => W'.cell? ⟨Z, 0, none⟩ = some (.int .i64 5) ∧ W'.cell? ⟨Z, 1, none⟩ = some (.int .i64 5) ∧ W'.cell? ⟨Z, 2, none⟩ = some (.int .i64 100) ∧ W'.cell? ⟨Z, 3, none⟩ = some (.slice L 5 lc) ∧ W'.cell? ⟨Z, 4, none⟩ = some (.slice (some ⟨b1, 0, none⟩) 1 1) ∧ W'.cell? ⟨Z, 5, none⟩ = some (.slice (some ⟨b2, 0, none⟩) 1 1) ∧ W'.cell? ⟨Z, 6, none⟩ = some (.int .i64 20) ∧ W'.cell? ⟨Z, 7, none⟩ = some (.int .i64 20) ∧ W'.cell? ⟨Z, 8, none⟩ = some (.int .i64 10) ∧ W'.cell? ⟨Z, 9, none⟩ = some (.int .i64 20) ∧ W'.cell? ⟨Z, 10, none⟩ = some (.bool false) ∧ W'.cell? ⟨K, 0, none⟩ = some (.int .i64 x) ∧ W'.cell? ⟨K, 1, none⟩ = some (.int .i64 y) ∧ W'.cell? ⟨U, 0, none⟩ = some (.int .i64 100) ∧ W'.cell? ⟨U, 1, none⟩ = some (.int .i64 (-100)) ∧ W'.cell? ⟨U, 2, none⟩ = some (.int .i64 100) ∧ W'.cell? ⟨U, 3, none⟩ = some (.int .i64 (-50)) ∧ W'.cell? ⟨T, 1, none⟩ = some (.map (some M1)) ∧ W'.cell? ⟨T, 2, none⟩ = some (.map (some M2))) (by kernel_rfl) (holds19 (.drew Q1.out)) (fun hHeld => ?_)
          refine wpAnyH_take (i := 0) (oi := ({ dst := some 85, op := Op.load 165 (Operand.tmp 3), type := 165, pos := "back.go:57", after := #[], guard := none } : Oper)) (v := ?_) rfl (by kernel_rfl) (by kernel_rfl) (by kernel_rfl) (fun _ _ _ h => h) (Or.inl ⟨by rfl, ?_⟩) (by assumption) ?_
          rotate_left
          · ((intro w hSw; (try dsimp only at hSw); go_split_ands; go_simp); try with_reducible rfl)
          (try simp only [Act.put, List.setIfInBounds_toArray, List.set_cons_zero, List.set_cons_succ])
          refine wpAnyH_take (i := 1) (oi := ({ dst := some 86, op := Op.load 39 (Operand.tmp 14), type := 39, pos := "back.go:57", after := #[], guard := none } : Oper)) (v := ?_) rfl (by kernel_rfl) (by kernel_rfl) (by kernel_rfl) (fun _ _ _ h => h) (Or.inl ⟨by rfl, ?_⟩) (by assumption) ?_
          rotate_left
          · ((intro w hSw; (try dsimp only at hSw); go_split_ands; go_simp); try with_reducible rfl)
          (try simp only [Act.put, List.setIfInBounds_toArray, List.set_cons_zero, List.set_cons_succ])
          refine wpAnyH_take (i := 2) (oi := ({ dst := some 87, op := Op.load 28 (Operand.tmp 16), type := 28, pos := "back.go:57", after := #[], guard := none } : Oper)) (v := ?_) rfl (by kernel_rfl) (by kernel_rfl) (by kernel_rfl) (fun _ _ _ h => h) (Or.inl ⟨by rfl, ?_⟩) (by assumption) ?_
          rotate_left
          · ((intro w hSw; (try dsimp only at hSw); go_split_ands; go_simp); try with_reducible rfl)
          (try simp only [Act.put, List.setIfInBounds_toArray, List.set_cons_zero, List.set_cons_succ])
          refine wpAnyH_take (i := 3) (oi := ({ dst := some 88, op := Op.move (Operand.tmp 15), type := 3, pos := "back.go:57", after := #[], guard := none } : Oper)) (v := ?_) rfl (by kernel_rfl) (by kernel_rfl) (by kernel_rfl) (fun _ _ _ h => h) (Or.inl ⟨by rfl, ?_⟩) (by assumption) ?_
          rotate_left
          · ((intro w hSw; (try dsimp only at hSw); go_split_ands; go_simp); try with_reducible rfl)
          (try simp only [Act.put, List.setIfInBounds_toArray, List.set_cons_zero, List.set_cons_succ])
          refine wpAnyH_take (i := 4) (oi := ({ dst := some 89, op := Op.indexAddr 226 (Operand.tmp 9) (Operand.tmp 88), type := 0, pos := "back.go:57", after := #[{ on := 3, ground := Ground.data }], guard := none } : Oper)) (v := ?_) rfl (by kernel_rfl) (by kernel_rfl) (by kernel_rfl) (fun _ _ _ h => h) (Or.inl ⟨by rfl, ?_⟩) (by assumption) ?_
          rotate_left
          · ((intro w hSw; (try dsimp only at hSw); go_split_ands; go_simp); try with_reducible rfl)
          (try simp only [Act.put, List.setIfInBounds_toArray, List.set_cons_zero, List.set_cons_succ])
          refine wpAnyH_take (i := 5) (oi := ({ dst := some 90, op := Op.load 210 (Operand.tmp 89), type := 210, pos := "back.go:57", after := #[{ on := 4, ground := Ground.data }], guard := none } : Oper)) (v := ?_) rfl (by kernel_rfl) (by kernel_rfl) (by kernel_rfl) (fun _ _ _ h => h) (Or.inl ⟨by rfl, ?_⟩) (by assumption) ?_
          rotate_left
          · ((intro w hSw; (try dsimp only at hSw); go_split_ands; go_simp); try with_reducible rfl)
          (try simp only [Act.put, List.setIfInBounds_toArray, List.set_cons_zero, List.set_cons_succ])
          refine wpAnyH_ready (rs := [6]) (by kernel_rfl) (by simp) (AllReadyH.cons (o := ({ dst := some 91, op := Op.call { callee := Callee.value (Operand.func 148), args := #[Operand.tmp 85, Operand.tmp 86, Operand.tmp 87, Operand.tmp 90], argTypes := #[165, 39, 28, 210] }, type := 4, pos := "back.go:57", after := #[{ on := 0, ground := Ground.data }, { on := 1, ground := Ground.data }, { on := 2, ground := Ground.data }, { on := 5, ground := Ground.data }], guard := none } : Oper)) rfl (fun K hK => ?_) AllReadyH.nil)
          go_simp
          (go_at_call 148; (with_reducible refine (HMa.out _ (drewB _)).mono ?_); rintro e wa ⟨rfl, hba⟩)
          have kba : Below w20.heap.size w20 wa := below_of_drew hba
          have Q2 := Lib.hid (Q1.out.below kba)
          clear hba
          refine hK.out _ _ (holds19 Q2.out) (fun hHeld => ?_)
          clear hK K
          (try simp only [Act.put, List.setIfInBounds_toArray, List.set_cons_zero, List.set_cons_succ])
          refine wpAnyH_take (i := 7) (oi := ({ dst := some 92, op := Op.move (Operand.tmp 91), type := 4, pos := "back.go:57", after := #[{ on := 6, ground := Ground.data }, { on := 6, ground := Ground.chain }], guard := none } : Oper)) (v := ?_) rfl (by kernel_rfl) (by kernel_rfl) (by kernel_rfl) (fun _ _ _ h => h) (Or.inl ⟨by rfl, ?_⟩) (by assumption) ?_
          rotate_left
          · ((intro w hSw; (try dsimp only at hSw); go_split_ands; go_simp); try with_reducible rfl)
          (try simp only [Act.put, List.setIfInBounds_toArray, List.set_cons_zero, List.set_cons_succ])
          refine wpAnyH_take (i := 8) (oi := ({ dst := some 93, op := Op.load 165 (Operand.tmp 3), type := 165, pos := "back.go:57", after := #[{ on := 7, ground := Ground.guard }], guard := some (7, false) } : Oper)) (v := ?_) rfl (by kernel_rfl) (by kernel_rfl) (by kernel_rfl) (fun _ _ _ h => h) (Or.inl ⟨by rfl, ?_⟩) (by assumption) ?_
          rotate_left
          · ((intro w hSw; (try dsimp only at hSw); go_split_ands; go_simp); try with_reducible rfl)
          (try simp only [Act.put, List.setIfInBounds_toArray, List.set_cons_zero, List.set_cons_succ])
          refine wpAnyH_take (i := 9) (oi := ({ dst := some 94, op := Op.load 39 (Operand.tmp 14), type := 39, pos := "back.go:57", after := #[{ on := 7, ground := Ground.guard }], guard := some (7, false) } : Oper)) (v := ?_) rfl (by kernel_rfl) (by kernel_rfl) (by kernel_rfl) (fun _ _ _ h => h) (Or.inl ⟨by rfl, ?_⟩) (by assumption) ?_
          rotate_left
          · ((intro w hSw; (try dsimp only at hSw); go_split_ands; go_simp); try with_reducible rfl)
          (try simp only [Act.put, List.setIfInBounds_toArray, List.set_cons_zero, List.set_cons_succ])
          refine wpAnyH_take (i := 10) (oi := ({ dst := some 95, op := Op.load 28 (Operand.tmp 16), type := 28, pos := "back.go:57", after := #[{ on := 7, ground := Ground.guard }], guard := some (7, false) } : Oper)) (v := ?_) rfl (by kernel_rfl) (by kernel_rfl) (by kernel_rfl) (fun _ _ _ h => h) (Or.inl ⟨by rfl, ?_⟩) (by assumption) ?_
          rotate_left
          · ((intro w hSw; (try dsimp only at hSw); go_split_ands; go_simp); try with_reducible rfl)
          (try simp only [Act.put, List.setIfInBounds_toArray, List.set_cons_zero, List.set_cons_succ])
          refine wpAnyH_take (i := 12) (oi := ({ dst := some 97, op := Op.indexAddr 226 (Operand.tmp 9) (Operand.const (Value.int IntKind.i64 2)), type := 0, pos := "back.go:57", after := #[{ on := 7, ground := Ground.guard }], guard := some (7, false) } : Oper)) (v := ?_) rfl (by kernel_rfl) (by kernel_rfl) (by kernel_rfl) (fun _ _ _ h => h) (Or.inl ⟨by rfl, ?_⟩) (by assumption) ?_
          rotate_left
          · ((intro w hSw; (try dsimp only at hSw); go_split_ands; go_simp); try with_reducible rfl)
          (try simp only [Act.put, List.setIfInBounds_toArray, List.set_cons_zero, List.set_cons_succ])
          refine wpAnyH_take (i := 13) (oi := ({ dst := some 98, op := Op.load 210 (Operand.tmp 97), type := 210, pos := "back.go:57", after := #[{ on := 12, ground := Ground.data }, { on := 7, ground := Ground.guard }], guard := some (7, false) } : Oper)) (v := ?_) rfl (by kernel_rfl) (by kernel_rfl) (by kernel_rfl) (fun _ _ _ h => h) (Or.inl ⟨by rfl, ?_⟩) (by assumption) ?_
          rotate_left
          · ((intro w hSw; (try dsimp only at hSw); go_split_ands; go_simp); try with_reducible rfl)
          (try simp only [Act.put, List.setIfInBounds_toArray, List.set_cons_zero, List.set_cons_succ])
          refine wpAnyH_ready (rs := [11]) (by kernel_rfl) (by simp) (AllReadyH.cons (o := ({ dst := some 96, op := Op.call { callee := Callee.value (Operand.func 142), args := #[Operand.tmp 95], argTypes := #[28] }, type := 28, pos := "back.go:57", after := #[{ on := 10, ground := Ground.data }, { on := 7, ground := Ground.chain }, { on := 7, ground := Ground.guard }], guard := some (7, false) } : Oper)) rfl (fun K hK => ?_) AllReadyH.nil)
          go_simp
          (go_at_call 142; (with_reducible refine (HSt.out _).mono ?_); rintro e wb ⟨rfl, hbb⟩)
          have kbb : Below w20.heap.size w20 wb := kba.trans (hbb.mono kba.size)
          have Q3 := Lib.hid (Q2.out.below hbb)
          clear hbb
          refine hK.out _ _ (holds19 Q3.out) (fun hHeld => ?_)
          clear hK K
          (try simp only [Act.put, List.setIfInBounds_toArray, List.set_cons_zero, List.set_cons_succ])
          refine wpAnyH_ready (rs := [14]) (by kernel_rfl) (by simp) (AllReadyH.cons (o := ({ dst := some 99, op := Op.call { callee := Callee.value (Operand.func 148), args := #[Operand.tmp 93, Operand.tmp 94, Operand.tmp 96, Operand.tmp 98], argTypes := #[165, 39, 28, 210] }, type := 4, pos := "back.go:57", after := #[{ on := 8, ground := Ground.data }, { on := 9, ground := Ground.data }, { on := 11, ground := Ground.data }, { on := 13, ground := Ground.data }, { on := 11, ground := Ground.chain }, { on := 7, ground := Ground.guard }], guard := some (7, false) } : Oper)) rfl (fun K hK => ?_) AllReadyH.nil)
          go_simp
          (go_at_call 148; (with_reducible refine (HMn.out _ kbb).mono ?_); rintro e wd ⟨rfl, hbd⟩)
          have kbd : Below w20.heap.size w20 wd := kbb.trans (hbd.mono kbb.size)
          have Q4 := Lib.hid (Q3.out.below hbd)
          clear hbd
          refine hK.out _ _ (holds19 Q4.out) (fun hHeld => ?_)
          clear hK K
          (try simp only [Act.put, List.setIfInBounds_toArray, List.set_cons_zero, List.set_cons_succ])
          refine wpAnyH_take (i := 15) (oi := ({ dst := some 100, op := Op.pick (Operand.tmp 92) (Operand.const (Value.bool true)) (Operand.tmp 99), type := 4, pos := "back.go:57", after := #[{ on := 7, ground := Ground.data }, { on := 14, ground := Ground.data }], guard := none } : Oper)) (v := ?_) rfl (by kernel_rfl) (by kernel_rfl) (by kernel_rfl) (fun _ _ _ h => h) (Or.inl ⟨by rfl, ?_⟩) (by assumption) ?_
          rotate_left
          · ((intro w hSw; (try dsimp only at hSw); go_split_ands; go_simp); try with_reducible rfl)
          (try simp only [Act.put, List.setIfInBounds_toArray, List.set_cons_zero, List.set_cons_succ])
          refine wpAnyH_done (by kernel_rfl) ?_ _
          refine NoPanic.normal ?_
          clear hHeld
          have HI := Lib.hid (InB.below inb_20.out kbd)
          clear Q1 Q2 Q3 Q4 HMa HMn HSt HLr kba kbb
          go_wp2_with fail
          go_roundw
          case rel => exact .inr (.inr ⟨rfl, HI.out⟩)
          case measure => simp [intOf]
        · have HI := Lib.hid hin
          clear hin
          go_wp2_with fail
          go_roundw
          case rel => exact ⟨k + 1, by omega, by go_num, HI.out.fin⟩
          case measure => simp [intOf]; omega
    · obtain rfl : k = 20 := by omega
      have HXi := Lib.hid HFB.out.xm
      obtain ⟨v, hF, hown⟩ := HFB.out.row
      have hlst := Lst_of_own encC_len hown rfl
      rw [gath_all] at hlst
      have zr := HXi.out.size
      clear hown HFB
      clear wl_h14
      clear to_14
      clear s0_14
      clear s1_14
      clear s2_14
      have S21 := Xm.size HXi.out
      have sea_21 := Lib.hid (sea_14.out.xm HXi.out (by omega))
      have pat_21 := Lib.hid (pat_14.out.xm HXi.out (by omega))
      have res_21 := Lib.hid (res_14.out.xm HXi.out (by omega))
      have BB21 := Lib.hid (BB14.out.trans (Xm.below HXi.out (B := w.heap.size) (by omega) (by omega)))
      clear sea_14 pat_14 res_14 BB14
      clear HXi
      have fr_h21 := Lib.hid (hF)
      have ls_h21 := Lib.hid (hlst)
      clear hF hlst
      have HSB := Lib.hid (BackB.mk (L := L) (A1 := A1) (A2 := none) (n2 := 0) (c2 := 0) (HB0.out.below BB21.out).1 ls_h21.out fr_h21.out pat_21.out sea_21.out)
      have HE := Lib.hid (each_dn 149 #[.pointer (some ⟨Z + 1, 0, none⟩), .pointer (some ⟨Z, 0, none⟩), .pointer (some ⟨F, 0, none⟩)] (pick3 [(1, 1, 2), (2, 1, 2)] [] []) wr (enters_of Try.func149 (by kernel_rfl) rfl) (three (fun W hW => before1_0 (by decide +kernel) (by decide) (by decide +kernel) (by decide) (HSB.out.below hW)) (fun W hW => before1_1 (R := [(1, 1, 2), (2, 1, 2)]) (by decide +kernel) (by decide) (by decide +kernel) (by decide) (HSB.out.below hW)) (fun W hW => before1_2 (R := [(1, 1, 2), (2, 1, 2)]) (by decide +kernel) (by decide) (by decide +kernel) (by decide) (HSB.out.below hW))))
      clear HSB
      go_wp2_with fail
      refine (HE.out).mono ?_
      rintro e w22 ⟨⟨P0, P1, P2, k0, k1, k2, e0, e1, e2, rfl, hr0, hr1, hr2⟩, hb22⟩
      have k22 : Below wr.heap.size wr w22 := hb22
      clear hb22
      have S22 := k22.size
      have sea_22 := Lib.hid (sea_21.out.below k22)
      have pat_22 := Lib.hid (pat_21.out.below k22)
      have res_22 := Lib.hid (res_21.out.below k22)
      have fr_22 := Lib.hid (fr_h21.out.below k22)
      have ls_22 := Lib.hid (ls_h21.out.below k22)
      have BB22 := Lib.hid (BB21.out.trans (k22.mono BB21.out.size))
      clear k22 sea_21 pat_21 res_21 fr_h21 ls_h21 BB21
      clear HE
      clear fr_22
      clear ls_22
      clear sea_22
      clear pat_22
      have r0_h22 := Lib.hid (hr0)
      have r1_h22 := Lib.hid (hr1)
      have r2_h22 := Lib.hid (hr2)
      clear hr0 hr1 hr2
      go_upto_region 29 with fail
      obtain ⟨RG, hRG⟩ : ∃ Z, w22.heap.size = Z := ⟨_, rfl⟩
      obtain ⟨w23, hw23⟩ : ∃ Z, (w22.alloc (.cells #[.slice P0 k0 e0, .slice P1 k1 e1, .slice P2 k2 e2] 208)) = Z := ⟨_, rfl⟩
      have k23 : Below w22.heap.size w22 w23 := by rw [← hw23]; exact ((Below.refl _ _).alloc (Nat.le_refl _) _)
      have z23 : RG < w23.heap.size := by rw [← hw23, ← hRG]; simp
      have y23 : w22.heap.size = RG := hRG
      have rg_23 : HasO w23 (RG) (.cells #[.slice P0 k0 e0, .slice P1 k1 e1, .slice P2 k2 e2] 208 (0, 0)) := by rw [← hw23, ← hRG]; have h := (HasO.new (w := w22) (o := .cells #[.slice P0 k0 e0, .slice P1 k1 e1, .slice P2 k2 e2] 208) rfl); simpa only [World.size_alloc] using h
      (try rw [hw23]); (try rw [hRG])
      clear hw23 hRG
      have S23 := k23.size
      have res_23 := Lib.hid (res_22.out.below k23)
      have r0_23 := Lib.hid (r0_h22.out.below k23)
      have r1_23 := Lib.hid (r1_h22.out.below k23)
      have r2_23 := Lib.hid (r2_h22.out.below k23)
      have BB23 := Lib.hid (BB22.out.trans (k23.mono BB22.out.size))
      clear k23 res_22 r0_h22 r1_h22 r2_h22 BB22
      have rgH_23 := Lib.hid rg_23
      clear rg_23
      have q23rg0 := HasO.cell (i := 0) rgH_23.out rfl
      have q23rg1 := HasO.cell (i := 1) rgH_23.out rfl
      have q23rg2 := HasO.cell (i := 2) rgH_23.out rfl
      go_wp2_with fail
      refine (patch_dn 0 false P0 P1 P2 k0 k1 k2 e0 e1 e2 _).mono ?_
      rintro e w24 ⟨rfl, hb24⟩
      have k24 : Below w23.heap.size w23 w24 := hb24
      clear hb24
      have S24 := k24.size
      have res_24 := Lib.hid (res_23.out.below k24)
      have r0_24 := Lib.hid (r0_23.out.below k24)
      have r1_24 := Lib.hid (r1_23.out.below k24)
      have r2_24 := Lib.hid (r2_23.out.below k24)
      have rg_24 := Lib.hid (rgH_23.out.below k24)
      have BB24 := Lib.hid (BB23.out.trans (k24.mono BB23.out.size))
      clear k24 res_23 r0_23 r1_23 r2_23 rgH_23 BB23
      clear q23rg0 q23rg1 q23rg2
      clear rg_24
      have q24res0 := HasO.cell (i := 0) res_24.out rfl
      have q24resf0 := HasO.frozen (i := 0) res_24.out
      have q24res1 := HasO.cell (i := 1) res_24.out rfl
      have q24resf1 := HasO.frozen (i := 1) res_24.out
      have q24res2 := HasO.cell (i := 2) res_24.out rfl
      have q24resf2 := HasO.frozen (i := 2) res_24.out
      have q24res3 := HasO.cell (i := 3) res_24.out rfl
      have q24resf3 := HasO.frozen (i := 3) res_24.out
      have q24res4 := HasO.cell (i := 4) res_24.out rfl
      have q24resf4 := HasO.frozen (i := 4) res_24.out
      go_wp2_with fail
      have X5 : Xm (Z + 1 + 1) w24 (((((w24.setCell ⟨Z + 1 + 1, 0, none⟩ (.int .i64 0)).setCell ⟨Z + 1 + 1, 1, none⟩ (.slice P0 k0 e0)).setCell ⟨Z + 1 + 1, 2, none⟩ (.slice P1 k1 e1)).setCell ⟨Z + 1 + 1, 3, none⟩ (.slice P2 k2 e2)).setCell ⟨Z + 1 + 1, 4, none⟩ (.bool false)) := ((((((Xm.refl (Z + 1 + 1) w24).trans (Xm.set w24 (.int .i64 0))).trans (Xm.set (w24.setCell ⟨Z + 1 + 1, 0, none⟩ (.int .i64 0)) (.slice P0 k0 e0))).trans (Xm.set ((w24.setCell ⟨Z + 1 + 1, 0, none⟩ (.int .i64 0)).setCell ⟨Z + 1 + 1, 1, none⟩ (.slice P0 k0 e0)) (.slice P1 k1 e1))).trans (Xm.set (((w24.setCell ⟨Z + 1 + 1, 0, none⟩ (.int .i64 0)).setCell ⟨Z + 1 + 1, 1, none⟩ (.slice P0 k0 e0)).setCell ⟨Z + 1 + 1, 2, none⟩ (.slice P1 k1 e1)) (.slice P2 k2 e2))).trans (Xm.set ((((w24.setCell ⟨Z + 1 + 1, 0, none⟩ (.int .i64 0)).setCell ⟨Z + 1 + 1, 1, none⟩ (.slice P0 k0 e0)).setCell ⟨Z + 1 + 1, 2, none⟩ (.slice P1 k1 e1)).setCell ⟨Z + 1 + 1, 3, none⟩ (.slice P2 k2 e2)) (.bool false)))
      have H5 : HasO (((((w24.setCell ⟨Z + 1 + 1, 0, none⟩ (.int .i64 0)).setCell ⟨Z + 1 + 1, 1, none⟩ (.slice P0 k0 e0)).setCell ⟨Z + 1 + 1, 2, none⟩ (.slice P1 k1 e1)).setCell ⟨Z + 1 + 1, 3, none⟩ (.slice P2 k2 e2)).setCell ⟨Z + 1 + 1, 4, none⟩ (.bool false)) (Z + 1 + 1) (.cells #[.int .i64 0, .slice P0 k0 e0, .slice P1 k1 e1, .slice P2 k2 e2, .bool false] 89 (0, 0)) := (HasO.set (i := 4) (v := .bool false) (HasO.set (i := 3) (v := .slice P2 k2 e2) (HasO.set (i := 2) (v := .slice P1 k1 e1) (HasO.set (i := 1) (v := .slice P0 k0 e0) (HasO.set (i := 0) (v := .int .i64 0) res_24.out)))))
      generalize (((((w24.setCell ⟨Z + 1 + 1, 0, none⟩ (.int .i64 0)).setCell ⟨Z + 1 + 1, 1, none⟩ (.slice P0 k0 e0)).setCell ⟨Z + 1 + 1, 2, none⟩ (.slice P1 k1 e1)).setCell ⟨Z + 1 + 1, 3, none⟩ (.slice P2 k2 e2)).setCell ⟨Z + 1 + 1, 4, none⟩ (.bool false)) = W5 at X5 H5 ⊢
      have f0 := HasO.cell (i := 0) H5 rfl
      have f1 := HasO.cell (i := 1) H5 rfl
      have f2 := HasO.cell (i := 2) H5 rfl
      have f3 := HasO.cell (i := 3) H5 rfl
      have f4 := HasO.cell (i := 4) H5 rfl
      refine bodyPost_ret (v := .tuple #[.agg #[.int .i64 0, .slice P0 k0 e0, .slice P1 k1 e1, .slice P2 k2 e2, .bool false], .int .i64 0]) (by simp [results, Try.results100, go_sem, f0, f1, f2, f3, f4]) rfl ?_
      exact ⟨⟨P0, P1, P2, k0, k1, k2, e0, e1, e2, rfl, Runs.xmPatch r0_24.out res_24.out X5, Runs.xmPatch r1_24.out res_24.out X5, Runs.xmPatch r2_24.out res_24.out X5⟩, BB24.out.trans (X5.below (B := w.heap.size) (by omega) (by omega))⟩
end Go.Proofs.Ytnbdnnbeiohmgaa
