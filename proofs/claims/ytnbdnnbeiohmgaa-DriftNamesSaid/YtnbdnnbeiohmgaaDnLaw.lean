/- The walk of the law DriftNames. -/
import Derived.Test.YtnbdnnbeiohmgaaDnFin
import Derived.Test.YtnbdnnbeiohmgaaDnBay
namespace Go.Proofs.Ytnbdnnbeiohmgaa
open Go.RowKit Go.Shelf Go.Lib Go.Maps
attribute [local go_sem] Oper.semAt_some

theorem Runs.len {w : World} {P : Option Addr} {k e : Nat} {l : List R3} (h : Runs w (.slice P k e) l) : k = l.length := by
  obtain ⟨A, c, q, -⟩ := h
  exact (Value.slice.inj q).2.1
/-- a patch's box that a drawn region made and filled -/
structure BoxP (w w1 Wf : World) (X : Nat) (t : Int) (P0 P1 P2 : Option Addr) (k0 k1 k2 e0 e1 e2 : Nat) (o : Bool) : Prop where
  has : HasO Wf X (.cells #[.int .i64 t, .slice P0 k0 e0, .slice P1 k1 e1, .slice P2 k2 e2, .bool o] 89 (0, 0))
  le : w.heap.size ≤ X
  bel : Below w.heap.size w Wf
  runs : ∀ v l, Runs w1 v l → Runs Wf v l
theorem boxOld {w w1 : World} {X : Nat} (t : Int) (P0 P1 P2 : Option Addr) (k0 k1 k2 e0 e1 e2 : Nat) (o : Bool) (hk : Below w.heap.size w w1) (hz : HasO w1 X (.cells #[.int .i64 0, .slice none 0 0, .slice none 0 0, .slice none 0 0, .bool false] 89 (0, 0))) (hX : w.heap.size ≤ X) :
    BoxP w w1 (((((w1.setCell ⟨X, 0, none⟩ (.int .i64 t)).setCell ⟨X, 1, none⟩ (.slice P0 k0 e0)).setCell ⟨X, 2, none⟩ (.slice P1 k1 e1)).setCell ⟨X, 3, none⟩ (.slice P2 k2 e2)).setCell ⟨X, 4, none⟩ (.bool o)) X t P0 P1 P2 k0 k1 k2 e0 e1 e2 o := by
  have X5 : Xm X w1 (((((w1.setCell ⟨X, 0, none⟩ (.int .i64 t)).setCell ⟨X, 1, none⟩ (.slice P0 k0 e0)).setCell ⟨X, 2, none⟩ (.slice P1 k1 e1)).setCell ⟨X, 3, none⟩ (.slice P2 k2 e2)).setCell ⟨X, 4, none⟩ (.bool o)) := ((((((Xm.refl X w1).trans (Xm.set w1 (.int .i64 t))).trans (Xm.set (w1.setCell ⟨X, 0, none⟩ (.int .i64 t)) (.slice P0 k0 e0))).trans (Xm.set ((w1.setCell ⟨X, 0, none⟩ (.int .i64 t)).setCell ⟨X, 1, none⟩ (.slice P0 k0 e0)) (.slice P1 k1 e1))).trans (Xm.set (((w1.setCell ⟨X, 0, none⟩ (.int .i64 t)).setCell ⟨X, 1, none⟩ (.slice P0 k0 e0)).setCell ⟨X, 2, none⟩ (.slice P1 k1 e1)) (.slice P2 k2 e2))).trans (Xm.set ((((w1.setCell ⟨X, 0, none⟩ (.int .i64 t)).setCell ⟨X, 1, none⟩ (.slice P0 k0 e0)).setCell ⟨X, 2, none⟩ (.slice P1 k1 e1)).setCell ⟨X, 3, none⟩ (.slice P2 k2 e2)) (.bool o)))
  exact ⟨(HasO.set (i := 4) (v := .bool o) (HasO.set (i := 3) (v := .slice P2 k2 e2) (HasO.set (i := 2) (v := .slice P1 k1 e1) (HasO.set (i := 1) (v := .slice P0 k0 e0) (HasO.set (i := 0) (v := .int .i64 t) hz))))), hX, hk.trans (X5.below hX hk.size), fun v l hr => Runs.xmPatch hr hz X5⟩
theorem boxNew {w w1 : World} (t : Int) (P0 P1 P2 : Option Addr) (k0 k1 k2 e0 e1 e2 : Nat) (o : Bool) (hk : Below w.heap.size w w1) :
    BoxP w w1 ((((((w1.alloc (.cells #[.int .i64 0, .slice none 0 0, .slice none 0 0, .slice none 0 0, .bool false] 89)).setCell ⟨w1.heap.size, 0, none⟩ (.int .i64 t)).setCell ⟨w1.heap.size, 1, none⟩ (.slice P0 k0 e0)).setCell ⟨w1.heap.size, 2, none⟩ (.slice P1 k1 e1)).setCell ⟨w1.heap.size, 3, none⟩ (.slice P2 k2 e2)).setCell ⟨w1.heap.size, 4, none⟩ (.bool o)) w1.heap.size t P0 P1 P2 k0 k1 k2 e0 e1 e2 o := by
  have hka : Below w1.heap.size w1 (w1.alloc (.cells #[.int .i64 0, .slice none 0 0, .slice none 0 0, .slice none 0 0, .bool false] 89)) := (Below.refl _ _).alloc (Nat.le_refl _) _
  have h := boxOld t P0 P1 P2 k0 k1 k2 e0 e1 e2 o (hk.trans (hka.mono hk.size)) (HasO.newR (w := w1) (o := .cells #[.int .i64 0, .slice none 0 0, .slice none 0 0, .slice none 0 0, .bool false] 89) rfl) hk.size
  exact ⟨h.has, h.le, h.bel, fun v l hr => h.runs v l (hr.below hka)⟩
theorem boxFold {w w1 : World} (t : Int) (P0 P1 P2 : Option Addr) (k0 k1 k2 e0 e1 e2 : Nat) (o : Bool) (hk : Below w.heap.size w w1) :
    BoxP w w1 (w1.alloc (.cells #[.int .i64 t, .slice P0 k0 e0, .slice P1 k1 e1, .slice P2 k2 e2, .bool o] 89)) w1.heap.size t P0 P1 P2 k0 k1 k2 e0 e1 e2 o :=
  ⟨HasO.newR rfl, hk.size, hk.alloc hk.size _, fun _v _l hr => hr.alloc _⟩

set_option maxRecDepth 100000 in
set_option maxHeartbeats 32000000 in
theorem alive_dn (w : World) : Calls Try.prog 49 #[] w fun e w' => e = .returned (.bool true) ∧ Below w.heap.size w w' := by
  have BB0 := Lib.hid (Below.refl w.heap.size w)
  go_enter Try.func49, Try.ntmps49
  go_wp2_with fail
  refine (bay_dn _).mono ?_
  rintro e w1 ⟨⟨L, lc, b1, b2, A, ca, rfl, hB⟩, hb1⟩
  have k1 : Below w.heap.size w w1 := hb1
  clear hb1
  have S1 := k1.size
  have BB1 := Lib.hid (BB0.out.trans (k1.mono BB0.out.size))
  clear k1 BB0
  have HB_h1 := Lib.hid (hB)
  clear hB
  go_upto_region 2 with fail
  obtain ⟨Z, hZ⟩ : ∃ Z, w1.heap.size = Z := ⟨_, rfl⟩
  obtain ⟨w2, hw2⟩ : ∃ Z, (w1.alloc (.cells #[.int .i64 5, .int .i64 5, .int .i64 100, .slice L 5 lc, .slice (some ⟨b1, 0, none⟩) 1 1, .slice (some ⟨b2, 0, none⟩) 1 1, .int .i64 20, .int .i64 20, .int .i64 10, .int .i64 20, .bool false] 84)) = Z := ⟨_, rfl⟩
  have k2 : Below w1.heap.size w1 w2 := by rw [← hw2]; exact ((Below.refl _ _).alloc (Nat.le_refl _) _)
  have z2 : Z < w2.heap.size := by rw [← hw2, ← hZ]; simp
  have y2 : w1.heap.size = Z := hZ
  have sea_2 : HasO w2 (Z) (.cells #[.int .i64 5, .int .i64 5, .int .i64 100, .slice L 5 lc, .slice (some ⟨b1, 0, none⟩) 1 1, .slice (some ⟨b2, 0, none⟩) 1 1, .int .i64 20, .int .i64 20, .int .i64 10, .int .i64 20, .bool false] 84 (0, 0)) := by rw [← hw2, ← hZ]; have h := (HasO.new (w := w1) (o := .cells #[.int .i64 5, .int .i64 5, .int .i64 100, .slice L 5 lc, .slice (some ⟨b1, 0, none⟩) 1 1, .slice (some ⟨b2, 0, none⟩) 1 1, .int .i64 20, .int .i64 20, .int .i64 10, .int .i64 20, .bool false] 84) rfl); simpa only [World.size_alloc] using h
  (try rw [hw2]); (try rw [hZ])
  clear hw2 hZ
  have S2 := k2.size
  have HB_2 := Lib.hid (HB_h1.out.below k2)
  have BB2 := Lib.hid (BB1.out.trans (k2.mono BB1.out.size))
  clear k2 HB_h1 BB1
  have seaH_2 := Lib.hid sea_2
  clear sea_2
  have q2sea0 := HasO.cell (i := 0) seaH_2.out rfl
  have q2sea1 := HasO.cell (i := 1) seaH_2.out rfl
  have q2sea2 := HasO.cell (i := 2) seaH_2.out rfl
  have q2sea3 := HasO.cell (i := 3) seaH_2.out rfl
  have q2sea4 := HasO.cell (i := 4) seaH_2.out rfl
  have q2sea5 := HasO.cell (i := 5) seaH_2.out rfl
  have q2sea6 := HasO.cell (i := 6) seaH_2.out rfl
  have q2sea7 := HasO.cell (i := 7) seaH_2.out rfl
  have q2sea8 := HasO.cell (i := 8) seaH_2.out rfl
  have q2sea9 := HasO.cell (i := 9) seaH_2.out rfl
  have q2sea10 := HasO.cell (i := 10) seaH_2.out rfl
  go_wp2_with fail
  refine (Push_dn 0 50 100 L A lc b1 b2 ca _ (.inl ⟨rfl, rfl, rfl⟩) HB_2.out).mono ?_
  rintro e w3 ⟨rfl, hb3⟩
  have k3 : Below w2.heap.size w2 w3 := hb3
  clear hb3
  have S3 := k3.size
  have HB_3 := Lib.hid (HB_2.out.below k3)
  have sea_3 := Lib.hid (seaH_2.out.below k3)
  have BB3 := Lib.hid (BB2.out.trans (k3.mono BB2.out.size))
  clear k3 HB_2 seaH_2 BB2
  clear q2sea0 q2sea1 q2sea2 q2sea3 q2sea4 q2sea5 q2sea6 q2sea7 q2sea8 q2sea9 q2sea10
  go_upto_region 3 with fail
  obtain ⟨U, hU⟩ : ∃ Z, w3.heap.size = Z := ⟨_, rfl⟩
  obtain ⟨w4, hw4⟩ : ∃ Z, (w3.alloc (.cells #[.int .i64 100, .int .i64 50, .int .i64 100, .int .i64 100] 28)) = Z := ⟨_, rfl⟩
  have k4 : Below w3.heap.size w3 w4 := by rw [← hw4]; exact ((Below.refl _ _).alloc (Nat.le_refl _) _)
  have z4 : U < w4.heap.size := by rw [← hw4, ← hU]; simp
  have y4 : w3.heap.size = U := hU
  have push_4 : HasO w4 (U) (.cells #[.int .i64 100, .int .i64 50, .int .i64 100, .int .i64 100] 28 (0, 0)) := by rw [← hw4, ← hU]; have h := (HasO.new (w := w3) (o := .cells #[.int .i64 100, .int .i64 50, .int .i64 100, .int .i64 100] 28) rfl); simpa only [World.size_alloc] using h
  (try rw [hw4]); (try rw [hU])
  clear hw4 hU
  have S4 := k4.size
  have HB_4 := Lib.hid (HB_3.out.below k4)
  have sea_4 := Lib.hid (sea_3.out.below k4)
  have BB4 := Lib.hid (BB3.out.trans (k4.mono BB3.out.size))
  clear k4 HB_3 sea_3 BB3
  have pushH_4 := Lib.hid push_4
  clear push_4
  have HBY := Lib.hid (HB_4.out)
  go_cut [4, 5] from 19 to 30 (fun p e wx => ∃ X P0 P1 P2 k0 k1 k2 e0 e1 e2, p = .pointer (some ⟨X, 0, none⟩) ∧ e = .int .i64 0 ∧ HasO wx X (.cells #[.int .i64 1000, .slice P0 k0 e0, .slice P1 k1 e1, .slice P2 k2 e2, .bool false] 89 (0, 0)) ∧ w4.heap.size ≤ X ∧ Runs wx (.slice P0 k0 e0) [(1, 2, 3), (2, 2, 3)] ∧ Runs wx (.slice P1 k1 e1) [] ∧ Runs wx (.slice P2 k2 e2) [] ∧ Below w4.heap.size w4 wx)
  case first =>
    have lZ := HasO.lt sea_4.out
    have Q1 := Lib.hid (show Holds w4 [(Z, 0, .int .i64 5), (Z, 1, .int .i64 5), (Z, 2, .int .i64 100), (Z, 3, .slice L 5 lc), (Z, 4, .slice (some ⟨b1, 0, none⟩) 1 1), (Z, 5, .slice (some ⟨b2, 0, none⟩) 1 1), (Z, 6, .int .i64 20), (Z, 7, .int .i64 20), (Z, 8, .int .i64 10), (Z, 9, .int .i64 20), (Z, 10, .bool false)] from (.cons lZ (HasO.cell (i := 0) sea_4.out rfl) (.cons lZ (HasO.cell (i := 1) sea_4.out rfl) (.cons lZ (HasO.cell (i := 2) sea_4.out rfl) (.cons lZ (HasO.cell (i := 3) sea_4.out rfl) (.cons lZ (HasO.cell (i := 4) sea_4.out rfl) (.cons lZ (HasO.cell (i := 5) sea_4.out rfl) (.cons lZ (HasO.cell (i := 6) sea_4.out rfl) (.cons lZ (HasO.cell (i := 7) sea_4.out rfl) (.cons lZ (HasO.cell (i := 8) sea_4.out rfl) (.cons lZ (HasO.cell (i := 9) sea_4.out rfl) (.cons lZ (HasO.cell (i := 10) sea_4.out rfl) (.nil _)))))))))))))
    have LT := Lib.hid Q1.out.lt
    clear lZ
    go_region_held3 (fun W' => W'.cell? ⟨Z, 0, none⟩ = some (.int .i64 5) ∧ W'.cell? ⟨Z, 1, none⟩ = some (.int .i64 5) ∧ W'.cell? ⟨Z, 2, none⟩ = some (.int .i64 100) ∧ W'.cell? ⟨Z, 3, none⟩ = some (.slice L 5 lc) ∧ W'.cell? ⟨Z, 4, none⟩ = some (.slice (some ⟨b1, 0, none⟩) 1 1) ∧ W'.cell? ⟨Z, 5, none⟩ = some (.slice (some ⟨b2, 0, none⟩) 1 1) ∧ W'.cell? ⟨Z, 6, none⟩ = some (.int .i64 20) ∧ W'.cell? ⟨Z, 7, none⟩ = some (.int .i64 20) ∧ W'.cell? ⟨Z, 8, none⟩ = some (.int .i64 10) ∧ W'.cell? ⟨Z, 9, none⟩ = some (.int .i64 20) ∧ W'.cell? ⟨Z, 10, none⟩ = some (.bool false))
      (first | with_reducible exact holds11 Q1.out | with_reducible exact holds11 (.drew Q1.out) | with_reducible exact holds11 (Q1.out.alloc _) | with_reducible exact holds11 (.drew (Q1.out.alloc _)) | with_reducible exact holds11 (((((Q1.out.setNew LT.out _ _ _ (by omega)).setNew LT.out _ _ _ (by omega)).setNew LT.out _ _ _ (by omega)).setNew LT.out _ _ _ (by omega)).setNew LT.out _ _ _ (by omega)) | with_reducible exact holds11 ((((((Q1.out.alloc _).setNew LT.out _ _ _ (by omega)).setNew LT.out _ _ _ (by omega)).setNew LT.out _ _ _ (by omega)).setNew LT.out _ _ _ (by omega)).setNew LT.out _ _ _ (by omega)) | with_reducible exact holds11 ((((((Q1.out.setNew LT.out _ _ _ (by omega)).setNew LT.out _ _ _ (by omega)).setNew LT.out _ _ _ (by omega)).setNew LT.out _ _ _ (by omega)).setNew LT.out _ _ _ (by omega)).alloc _) | with_reducible exact holds11 Q2.out | with_reducible exact holds11 (.drew Q2.out) | with_reducible exact holds11 (Q2.out.alloc _) | with_reducible exact holds11 (.drew (Q2.out.alloc _)) | with_reducible exact holds11 (((((Q2.out.setNew LT.out _ _ _ (by omega)).setNew LT.out _ _ _ (by omega)).setNew LT.out _ _ _ (by omega)).setNew LT.out _ _ _ (by omega)).setNew LT.out _ _ _ (by omega)) | with_reducible exact holds11 ((((((Q2.out.alloc _).setNew LT.out _ _ _ (by omega)).setNew LT.out _ _ _ (by omega)).setNew LT.out _ _ _ (by omega)).setNew LT.out _ _ _ (by omega)).setNew LT.out _ _ _ (by omega)) | with_reducible exact holds11 ((((((Q2.out.setNew LT.out _ _ _ (by omega)).setNew LT.out _ _ _ (by omega)).setNew LT.out _ _ _ (by omega)).setNew LT.out _ _ _ (by omega)).setNew LT.out _ _ _ (by omega)).alloc _) | with_reducible exact holds11 Q3.out | with_reducible exact holds11 (.drew Q3.out) | with_reducible exact holds11 (Q3.out.alloc _) | with_reducible exact holds11 (.drew (Q3.out.alloc _)) | with_reducible exact holds11 (((((Q3.out.setNew LT.out _ _ _ (by omega)).setNew LT.out _ _ _ (by omega)).setNew LT.out _ _ _ (by omega)).setNew LT.out _ _ _ (by omega)).setNew LT.out _ _ _ (by omega)) | with_reducible exact holds11 ((((((Q3.out.alloc _).setNew LT.out _ _ _ (by omega)).setNew LT.out _ _ _ (by omega)).setNew LT.out _ _ _ (by omega)).setNew LT.out _ _ _ (by omega)).setNew LT.out _ _ _ (by omega)) | with_reducible exact holds11 ((((((Q3.out.setNew LT.out _ _ _ (by omega)).setNew LT.out _ _ _ (by omega)).setNew LT.out _ _ _ (by omega)).setNew LT.out _ _ _ (by omega)).setNew LT.out _ _ _ (by omega)).alloc _) | fail)
      (first | (go_at_call 46; (refine (at4_dn 1 1 _ (by omega)).mono ?_); rintro e x5a ⟨⟨A1, rfl, hrA1⟩, hb⟩; (with_reducible first | (have kba : Below w4.heap.size w4 x5a := below_plain (below_of_drew hb)) | (have kba : Below w4.heap.size w4 x5a := below_made (below_of_drew hb))); have ssa := kba.size; (first | (have HZ := Lib.hid (show HasO x5a w4.heap.size (.cells #[.int .i64 0, .slice none 0 0, .slice none 0 0, .slice none 0 0, .bool false] 89 (0, 0)) from HasO.below (HasO.drewR (HasO.newR rfl)) hb)) | skip); have Q2 := Lib.hid (Q1.out.below kba); have HRA1 := Lib.hid hrA1; have HBy := Lib.hid (HBY.out.below kba); clear hrA1; have HS := Lib.hid (fun W (hW : Below x5a.heap.size x5a W) => Step_left L A (some ⟨A1, 0, none⟩) lc b1 b2 ca 1 W (HBy.out.below hW) (HRA1.out.below hW)); clear hb; skip) | (go_at_call 45; (refine (HS.out _ (by first | exact Below.refl _ _ | exact (Below.refl _ _).alloc (Nat.le_refl _) _)).mono ?_); rintro e x5b ⟨⟨P0, P1, P2, k0, k1, k2, e0, e1, e2, rfl, hr0, hr1, hr2⟩, hb⟩; (with_reducible first | (have kbb : Below x5a.heap.size x5a x5b := below_plain hb) | (have kbb : Below x5a.heap.size x5a x5b := below_made hb)); have ssb := kbb.size; (first | (have HZ := Lib.hid (show HasO x5b w4.heap.size (.cells #[.int .i64 0, .slice none 0 0, .slice none 0 0, .slice none 0 0, .bool false] 89 (0, 0)) from HZ.out.below kbb)) | (have HZ := Lib.hid (HZ.out.below kbb)) | (have HZ := Lib.hid (show HasO x5b x5a.heap.size (.cells #[.int .i64 0, .slice none 0 0, .slice none 0 0, .slice none 0 0, .bool false] 89 (0, 0)) from HasO.below (HasO.newR rfl) hb)) | skip); have Q3 := Lib.hid (Q2.out.below kbb); have HR0 := Lib.hid hr0; have HR1 := Lib.hid hr1; have HR2 := Lib.hid hr2; clear hr0 hr1 hr2; (try (have zc0 := HasO.cell (i := 0) HZ.out rfl; have zf0 := HasO.frozen (i := 0) HZ.out; have zc1 := HasO.cell (i := 1) HZ.out rfl; have zf1 := HasO.frozen (i := 1) HZ.out; have zc2 := HasO.cell (i := 2) HZ.out rfl; have zf2 := HasO.frozen (i := 2) HZ.out; have zc3 := HasO.cell (i := 3) HZ.out rfl; have zf3 := HasO.frozen (i := 3) HZ.out; have zc4 := HasO.cell (i := 4) HZ.out rfl; have zf4 := HasO.frozen (i := 4) HZ.out)); clear hb; skip))
    all_goals
      rename_i hHeld
      clear hHeld
      go_wp2_with fail
      go_meet
      have kE : Below w4.heap.size w4 x5b := (kba.trans (kbb.mono (by omega)))
      (first | (have hbx := boxOld 1000 P0 P1 P2 k0 k1 k2 e0 e1 e2 false kE HZ.out (by omega); exact ⟨_, P0, P1, P2, k0, k1, k2, e0, e1, e2, rfl, rfl, hbx.has, hbx.le, hbx.runs _ _ HR0.out, hbx.runs _ _ HR1.out, hbx.runs _ _ HR2.out, hbx.bel⟩) | (have hbx := boxFold 1000 P0 P1 P2 k0 k1 k2 e0 e1 e2 false kE; exact ⟨_, P0, P1, P2, k0, k1, k2, e0, e1, e2, rfl, rfl, hbx.has, hbx.le, hbx.runs _ _ HR0.out, hbx.runs _ _ HR1.out, hbx.runs _ _ HR2.out, hbx.bel⟩) | (have hbx := boxNew 1000 P0 P1 P2 k0 k1 k2 e0 e1 e2 false kE; exact ⟨_, P0, P1, P2, k0, k1, k2, e0, e1, e2, rfl, rfl, hbx.has, hbx.le, hbx.runs _ _ HR0.out, hbx.runs _ _ HR1.out, hbx.runs _ _ HR2.out, hbx.bel⟩))
  case rest =>
    obtain ⟨w5, hwc⟩ : ∃ z, z = wc := ⟨_, rfl⟩
    subst hwc
    obtain ⟨X, P0, P1, P2, k0, k1, k2, e0, e1, e2, rfl, rfl, hX, leX, hr0, hr1, hr2, kc⟩ := hcut
    have S5 := kc.size
    have HB_5 := Lib.hid (HB_4.out.below kc)
    have sea_5 := Lib.hid (sea_4.out.below kc)
    have push_5 := Lib.hid (pushH_4.out.below kc)
    have BB5 := Lib.hid (BB4.out.trans (kc.mono BB4.out.size))
    clear kc HB_4 sea_4 pushH_4 BB4
    have bx_h5 := Lib.hid (hX)
    have r0_h5 := Lib.hid (hr0)
    have r1_h5 := Lib.hid (hr1)
    have r2_h5 := Lib.hid (hr2)
    clear hX hr0 hr1 hr2
    clear sea_5
    clear HB_5
    have hk : k0 = 2 := Runs.len r0_h5.out
    subst hk
    have hk : k1 = 0 := Runs.len r1_h5.out
    subst hk
    have hk : k2 = 0 := Runs.len r2_h5.out
    subst hk
    have q5push0 := HasO.cell (i := 0) push_5.out rfl
    have q5push1 := HasO.cell (i := 1) push_5.out rfl
    have q5push2 := HasO.cell (i := 2) push_5.out rfl
    have q5push3 := HasO.cell (i := 3) push_5.out rfl
    have q5bx0 := HasO.cell (i := 0) bx_h5.out rfl
    have q5bx1 := HasO.cell (i := 1) bx_h5.out rfl
    have q5bx2 := HasO.cell (i := 2) bx_h5.out rfl
    have q5bx3 := HasO.cell (i := 3) bx_h5.out rfl
    have q5bx4 := HasO.cell (i := 4) bx_h5.out rfl
    go_wp2_with fail
    refine ((same_gr _ (.slice (some ⟨w5.heap.size, 0, none⟩) 2 2) [(1, 2, 3), (2, 2, 3)] _ (r0_h5.out.alloc _) (Lst_lit encR_len w5 w5.heap.size 2 rfl #[.int .i64 1, .int .i64 2, .int .i64 3, .int .i64 2, .int .i64 2, .int .i64 3] [(1, 2, 3), (2, 2, 3)] 72 rfl rfl (by unfold maxLen; omega)))).mono ?_
    rintro e w6 ⟨rfl, hb6⟩
    have k6 : Below w5.heap.size w5 w6 := ((Below.refl w5.heap.size w5).alloc (Nat.le_refl _) _).trans (hb6.mono (by simp))
    clear hb6
    have S6 := k6.size
    have push_6 := Lib.hid (push_5.out.below k6)
    have bx_6 := Lib.hid (bx_h5.out.below k6)
    have r0_6 := Lib.hid (r0_h5.out.below k6)
    have r1_6 := Lib.hid (r1_h5.out.below k6)
    have r2_6 := Lib.hid (r2_h5.out.below k6)
    have BB6 := Lib.hid (BB5.out.trans (k6.mono BB5.out.size))
    clear k6 push_5 bx_h5 r0_h5 r1_h5 r2_h5 BB5
    clear q5push0 q5push1 q5push2 q5push3 q5bx0 q5bx1 q5bx2 q5bx3 q5bx4
    have q6bx0 := HasO.cell (i := 0) bx_6.out rfl
    have q6bx1 := HasO.cell (i := 1) bx_6.out rfl
    have q6bx2 := HasO.cell (i := 2) bx_6.out rfl
    have q6bx3 := HasO.cell (i := 3) bx_6.out rfl
    have q6bx4 := HasO.cell (i := 4) bx_6.out rfl
    go_wp2_with fail
    go_ret
    exact ⟨rfl, BB6.out⟩

set_option maxRecDepth 100000 in
set_option maxHeartbeats 64000000 in
theorem names_dn (w : World) : Calls Try.prog 8 #[] w fun e w' => e = .returned (.bool true) ∧ Below w.heap.size w w' := by
  have BB0 := Lib.hid (Below.refl w.heap.size w)
  go_enter Try.func8, Try.ntmps8
  go_wp2_with fail
  refine (bay_dn _).mono ?_
  rintro e w1 ⟨⟨L, lc, b1, b2, A, ca, rfl, hB⟩, hb1⟩
  have k1 : Below w.heap.size w w1 := hb1
  clear hb1
  have S1 := k1.size
  have BB1 := Lib.hid (BB0.out.trans (k1.mono BB0.out.size))
  clear k1 BB0
  have HB_h1 := Lib.hid (hB)
  clear hB
  go_upto_region 2 with fail
  obtain ⟨Z, hZ⟩ : ∃ Z, w1.heap.size = Z := ⟨_, rfl⟩
  obtain ⟨w2, hw2⟩ : ∃ Z, (w1.alloc (.cells #[.int .i64 5, .int .i64 5, .int .i64 100, .slice L 5 lc, .slice (some ⟨b1, 0, none⟩) 1 1, .slice (some ⟨b2, 0, none⟩) 1 1, .int .i64 20, .int .i64 20, .int .i64 10, .int .i64 20, .bool false] 84)) = Z := ⟨_, rfl⟩
  have k2 : Below w1.heap.size w1 w2 := by rw [← hw2]; exact ((Below.refl _ _).alloc (Nat.le_refl _) _)
  have z2 : Z < w2.heap.size := by rw [← hw2, ← hZ]; simp
  have y2 : w1.heap.size = Z := hZ
  have sea_2 : HasO w2 (Z) (.cells #[.int .i64 5, .int .i64 5, .int .i64 100, .slice L 5 lc, .slice (some ⟨b1, 0, none⟩) 1 1, .slice (some ⟨b2, 0, none⟩) 1 1, .int .i64 20, .int .i64 20, .int .i64 10, .int .i64 20, .bool false] 84 (0, 0)) := by rw [← hw2, ← hZ]; have h := (HasO.new (w := w1) (o := .cells #[.int .i64 5, .int .i64 5, .int .i64 100, .slice L 5 lc, .slice (some ⟨b1, 0, none⟩) 1 1, .slice (some ⟨b2, 0, none⟩) 1 1, .int .i64 20, .int .i64 20, .int .i64 10, .int .i64 20, .bool false] 84) rfl); simpa only [World.size_alloc] using h
  (try rw [hw2]); (try rw [hZ])
  clear hw2 hZ
  have S2 := k2.size
  have HB_2 := Lib.hid (HB_h1.out.below k2)
  have BB2 := Lib.hid (BB1.out.trans (k2.mono BB1.out.size))
  clear k2 HB_h1 BB1
  have seaH_2 := Lib.hid sea_2
  clear sea_2
  have q2sea0 := HasO.cell (i := 0) seaH_2.out rfl
  have q2sea1 := HasO.cell (i := 1) seaH_2.out rfl
  have q2sea2 := HasO.cell (i := 2) seaH_2.out rfl
  have q2sea3 := HasO.cell (i := 3) seaH_2.out rfl
  have q2sea4 := HasO.cell (i := 4) seaH_2.out rfl
  have q2sea5 := HasO.cell (i := 5) seaH_2.out rfl
  have q2sea6 := HasO.cell (i := 6) seaH_2.out rfl
  have q2sea7 := HasO.cell (i := 7) seaH_2.out rfl
  have q2sea8 := HasO.cell (i := 8) seaH_2.out rfl
  have q2sea9 := HasO.cell (i := 9) seaH_2.out rfl
  have q2sea10 := HasO.cell (i := 10) seaH_2.out rfl
  go_wp2_with fail
  refine (Push_dn 1 (-100) (-50) L A lc b1 b2 ca _ (.inr ⟨rfl, rfl, rfl⟩) HB_2.out).mono ?_
  rintro e w3 ⟨rfl, hb3⟩
  have k3 : Below w2.heap.size w2 w3 := hb3
  clear hb3
  have S3 := k3.size
  have HB_3 := Lib.hid (HB_2.out.below k3)
  have sea_3 := Lib.hid (seaH_2.out.below k3)
  have BB3 := Lib.hid (BB2.out.trans (k3.mono BB2.out.size))
  clear k3 HB_2 seaH_2 BB2
  clear q2sea0 q2sea1 q2sea2 q2sea3 q2sea4 q2sea5 q2sea6 q2sea7 q2sea8 q2sea9 q2sea10
  go_upto_region 3 with fail
  obtain ⟨U, hU⟩ : ∃ Z, w3.heap.size = Z := ⟨_, rfl⟩
  obtain ⟨w4, hw4⟩ : ∃ Z, (w3.alloc (.cells #[.int .i64 100, .int .i64 (-100), .int .i64 100, .int .i64 (-50)] 28)) = Z := ⟨_, rfl⟩
  have k4 : Below w3.heap.size w3 w4 := by rw [← hw4]; exact ((Below.refl _ _).alloc (Nat.le_refl _) _)
  have z4 : U < w4.heap.size := by rw [← hw4, ← hU]; simp
  have y4 : w3.heap.size = U := hU
  have push_4 : HasO w4 (U) (.cells #[.int .i64 100, .int .i64 (-100), .int .i64 100, .int .i64 (-50)] 28 (0, 0)) := by rw [← hw4, ← hU]; have h := (HasO.new (w := w3) (o := .cells #[.int .i64 100, .int .i64 (-100), .int .i64 100, .int .i64 (-50)] 28) rfl); simpa only [World.size_alloc] using h
  (try rw [hw4]); (try rw [hU])
  clear hw4 hU
  have S4 := k4.size
  have HB_4 := Lib.hid (HB_3.out.below k4)
  have sea_4 := Lib.hid (sea_3.out.below k4)
  have BB4 := Lib.hid (BB3.out.trans (k4.mono BB3.out.size))
  clear k4 HB_3 sea_3 BB3
  have pushH_4 := Lib.hid push_4
  clear push_4
  have HBY := Lib.hid (HB_4.out)
  go_cut [4, 5] from 30 to 41 (fun p e wx => ∃ X P0 P1 P2 k0 k1 k2 e0 e1 e2, p = .pointer (some ⟨X, 0, none⟩) ∧ e = .int .i64 0 ∧ HasO wx X (.cells #[.int .i64 1000, .slice P0 k0 e0, .slice P1 k1 e1, .slice P2 k2 e2, .bool false] 89 (0, 0)) ∧ w4.heap.size ≤ X ∧ Runs wx (.slice P0 k0 e0) [] ∧ Runs wx (.slice P1 k1 e1) [] ∧ Runs wx (.slice P2 k2 e2) [(0, 4, 5), (1, 4, 5)] ∧ Below w4.heap.size w4 wx)
  case first =>
    have lZ := HasO.lt sea_4.out
    have Q1 := Lib.hid (show Holds w4 [(Z, 0, .int .i64 5), (Z, 1, .int .i64 5), (Z, 2, .int .i64 100), (Z, 3, .slice L 5 lc), (Z, 4, .slice (some ⟨b1, 0, none⟩) 1 1), (Z, 5, .slice (some ⟨b2, 0, none⟩) 1 1), (Z, 6, .int .i64 20), (Z, 7, .int .i64 20), (Z, 8, .int .i64 10), (Z, 9, .int .i64 20), (Z, 10, .bool false)] from (.cons lZ (HasO.cell (i := 0) sea_4.out rfl) (.cons lZ (HasO.cell (i := 1) sea_4.out rfl) (.cons lZ (HasO.cell (i := 2) sea_4.out rfl) (.cons lZ (HasO.cell (i := 3) sea_4.out rfl) (.cons lZ (HasO.cell (i := 4) sea_4.out rfl) (.cons lZ (HasO.cell (i := 5) sea_4.out rfl) (.cons lZ (HasO.cell (i := 6) sea_4.out rfl) (.cons lZ (HasO.cell (i := 7) sea_4.out rfl) (.cons lZ (HasO.cell (i := 8) sea_4.out rfl) (.cons lZ (HasO.cell (i := 9) sea_4.out rfl) (.cons lZ (HasO.cell (i := 10) sea_4.out rfl) (.nil _)))))))))))))
    have LT := Lib.hid Q1.out.lt
    clear lZ
    go_region_held3 (fun W' => W'.cell? ⟨Z, 0, none⟩ = some (.int .i64 5) ∧ W'.cell? ⟨Z, 1, none⟩ = some (.int .i64 5) ∧ W'.cell? ⟨Z, 2, none⟩ = some (.int .i64 100) ∧ W'.cell? ⟨Z, 3, none⟩ = some (.slice L 5 lc) ∧ W'.cell? ⟨Z, 4, none⟩ = some (.slice (some ⟨b1, 0, none⟩) 1 1) ∧ W'.cell? ⟨Z, 5, none⟩ = some (.slice (some ⟨b2, 0, none⟩) 1 1) ∧ W'.cell? ⟨Z, 6, none⟩ = some (.int .i64 20) ∧ W'.cell? ⟨Z, 7, none⟩ = some (.int .i64 20) ∧ W'.cell? ⟨Z, 8, none⟩ = some (.int .i64 10) ∧ W'.cell? ⟨Z, 9, none⟩ = some (.int .i64 20) ∧ W'.cell? ⟨Z, 10, none⟩ = some (.bool false))
      (first | with_reducible exact holds11 Q1.out | with_reducible exact holds11 (.drew Q1.out) | with_reducible exact holds11 (Q1.out.alloc _) | with_reducible exact holds11 (.drew (Q1.out.alloc _)) | with_reducible exact holds11 (((((Q1.out.setNew LT.out _ _ _ (by omega)).setNew LT.out _ _ _ (by omega)).setNew LT.out _ _ _ (by omega)).setNew LT.out _ _ _ (by omega)).setNew LT.out _ _ _ (by omega)) | with_reducible exact holds11 ((((((Q1.out.alloc _).setNew LT.out _ _ _ (by omega)).setNew LT.out _ _ _ (by omega)).setNew LT.out _ _ _ (by omega)).setNew LT.out _ _ _ (by omega)).setNew LT.out _ _ _ (by omega)) | with_reducible exact holds11 ((((((Q1.out.setNew LT.out _ _ _ (by omega)).setNew LT.out _ _ _ (by omega)).setNew LT.out _ _ _ (by omega)).setNew LT.out _ _ _ (by omega)).setNew LT.out _ _ _ (by omega)).alloc _) | with_reducible exact holds11 Q2.out | with_reducible exact holds11 (.drew Q2.out) | with_reducible exact holds11 (Q2.out.alloc _) | with_reducible exact holds11 (.drew (Q2.out.alloc _)) | with_reducible exact holds11 (((((Q2.out.setNew LT.out _ _ _ (by omega)).setNew LT.out _ _ _ (by omega)).setNew LT.out _ _ _ (by omega)).setNew LT.out _ _ _ (by omega)).setNew LT.out _ _ _ (by omega)) | with_reducible exact holds11 ((((((Q2.out.alloc _).setNew LT.out _ _ _ (by omega)).setNew LT.out _ _ _ (by omega)).setNew LT.out _ _ _ (by omega)).setNew LT.out _ _ _ (by omega)).setNew LT.out _ _ _ (by omega)) | with_reducible exact holds11 ((((((Q2.out.setNew LT.out _ _ _ (by omega)).setNew LT.out _ _ _ (by omega)).setNew LT.out _ _ _ (by omega)).setNew LT.out _ _ _ (by omega)).setNew LT.out _ _ _ (by omega)).alloc _) | with_reducible exact holds11 Q3.out | with_reducible exact holds11 (.drew Q3.out) | with_reducible exact holds11 (Q3.out.alloc _) | with_reducible exact holds11 (.drew (Q3.out.alloc _)) | with_reducible exact holds11 (((((Q3.out.setNew LT.out _ _ _ (by omega)).setNew LT.out _ _ _ (by omega)).setNew LT.out _ _ _ (by omega)).setNew LT.out _ _ _ (by omega)).setNew LT.out _ _ _ (by omega)) | with_reducible exact holds11 ((((((Q3.out.alloc _).setNew LT.out _ _ _ (by omega)).setNew LT.out _ _ _ (by omega)).setNew LT.out _ _ _ (by omega)).setNew LT.out _ _ _ (by omega)).setNew LT.out _ _ _ (by omega)) | with_reducible exact holds11 ((((((Q3.out.setNew LT.out _ _ _ (by omega)).setNew LT.out _ _ _ (by omega)).setNew LT.out _ _ _ (by omega)).setNew LT.out _ _ _ (by omega)).setNew LT.out _ _ _ (by omega)).alloc _) | fail)
      (first | (go_at_call 46; (refine (at4_dn 3 1 _ (by omega)).mono ?_); rintro e x5a ⟨⟨A1, rfl, hrA1⟩, hb⟩; (with_reducible first | (have kba : Below w4.heap.size w4 x5a := below_plain (below_of_drew hb)) | (have kba : Below w4.heap.size w4 x5a := below_made (below_of_drew hb))); have ssa := kba.size; (first | (have HZ := Lib.hid (show HasO x5a w4.heap.size (.cells #[.int .i64 0, .slice none 0 0, .slice none 0 0, .slice none 0 0, .bool false] 89 (0, 0)) from HasO.below (HasO.drewR (HasO.newR rfl)) hb)) | skip); have Q2 := Lib.hid (Q1.out.below kba); have HRA1 := Lib.hid hrA1; have HBy := Lib.hid (HBY.out.below kba); clear hrA1; have HS := Lib.hid (fun W (hW : Below x5a.heap.size x5a W) => Step_right L A (some ⟨A1, 0, none⟩) lc b1 b2 ca 1 W (HBy.out.below hW) (HRA1.out.below hW)); clear hb; skip) | (go_at_call 45; (refine (HS.out _ (by first | exact Below.refl _ _ | exact (Below.refl _ _).alloc (Nat.le_refl _) _)).mono ?_); rintro e x5b ⟨⟨P0, P1, P2, k0, k1, k2, e0, e1, e2, rfl, hr0, hr1, hr2⟩, hb⟩; (with_reducible first | (have kbb : Below x5a.heap.size x5a x5b := below_plain hb) | (have kbb : Below x5a.heap.size x5a x5b := below_made hb)); have ssb := kbb.size; (first | (have HZ := Lib.hid (show HasO x5b w4.heap.size (.cells #[.int .i64 0, .slice none 0 0, .slice none 0 0, .slice none 0 0, .bool false] 89 (0, 0)) from HZ.out.below kbb)) | (have HZ := Lib.hid (HZ.out.below kbb)) | (have HZ := Lib.hid (show HasO x5b x5a.heap.size (.cells #[.int .i64 0, .slice none 0 0, .slice none 0 0, .slice none 0 0, .bool false] 89 (0, 0)) from HasO.below (HasO.newR rfl) hb)) | skip); have Q3 := Lib.hid (Q2.out.below kbb); have HR0 := Lib.hid hr0; have HR1 := Lib.hid hr1; have HR2 := Lib.hid hr2; clear hr0 hr1 hr2; (try (have zc0 := HasO.cell (i := 0) HZ.out rfl; have zf0 := HasO.frozen (i := 0) HZ.out; have zc1 := HasO.cell (i := 1) HZ.out rfl; have zf1 := HasO.frozen (i := 1) HZ.out; have zc2 := HasO.cell (i := 2) HZ.out rfl; have zf2 := HasO.frozen (i := 2) HZ.out; have zc3 := HasO.cell (i := 3) HZ.out rfl; have zf3 := HasO.frozen (i := 3) HZ.out; have zc4 := HasO.cell (i := 4) HZ.out rfl; have zf4 := HasO.frozen (i := 4) HZ.out)); clear hb; skip))
    all_goals
      rename_i hHeld
      clear hHeld
      go_wp2_with fail
      go_meet
      have kE : Below w4.heap.size w4 x5b := (kba.trans (kbb.mono (by omega)))
      (first | (have hbx := boxOld 1000 P0 P1 P2 k0 k1 k2 e0 e1 e2 false kE HZ.out (by omega); exact ⟨_, P0, P1, P2, k0, k1, k2, e0, e1, e2, rfl, rfl, hbx.has, hbx.le, hbx.runs _ _ HR0.out, hbx.runs _ _ HR1.out, hbx.runs _ _ HR2.out, hbx.bel⟩) | (have hbx := boxFold 1000 P0 P1 P2 k0 k1 k2 e0 e1 e2 false kE; exact ⟨_, P0, P1, P2, k0, k1, k2, e0, e1, e2, rfl, rfl, hbx.has, hbx.le, hbx.runs _ _ HR0.out, hbx.runs _ _ HR1.out, hbx.runs _ _ HR2.out, hbx.bel⟩) | (have hbx := boxNew 1000 P0 P1 P2 k0 k1 k2 e0 e1 e2 false kE; exact ⟨_, P0, P1, P2, k0, k1, k2, e0, e1, e2, rfl, rfl, hbx.has, hbx.le, hbx.runs _ _ HR0.out, hbx.runs _ _ HR1.out, hbx.runs _ _ HR2.out, hbx.bel⟩))
  case rest =>
    obtain ⟨w5, hwc⟩ : ∃ z, z = wc := ⟨_, rfl⟩
    subst hwc
    obtain ⟨X, P0, P1, P2, k0, k1, k2, e0, e1, e2, rfl, rfl, hX, leX, hr0, hr1, hr2, kc⟩ := hcut
    have S5 := kc.size
    have HB_5 := Lib.hid (HB_4.out.below kc)
    have sea_5 := Lib.hid (sea_4.out.below kc)
    have push_5 := Lib.hid (pushH_4.out.below kc)
    have BB5 := Lib.hid (BB4.out.trans (kc.mono BB4.out.size))
    clear kc HB_4 sea_4 pushH_4 BB4
    have bx_h5 := Lib.hid (hX)
    have r1_h5 := Lib.hid (hr1)
    have r2_h5 := Lib.hid (hr2)
    clear hX hr1 hr2
    have hk : k1 = 0 := Runs.len r1_h5.out
    subst hk
    have hk : k2 = 2 := Runs.len r2_h5.out
    subst hk
    go_upto_region 4 with fail
    clear HBY
    have HBY := Lib.hid (HB_5.out)
    go_cut [6, 7] from 42 to 53 (fun p e wx => ∃ X P0 P1 P2 k0 k1 k2 e0 e1 e2, p = .pointer (some ⟨X, 0, none⟩) ∧ e = .int .i64 0 ∧ HasO wx X (.cells #[.int .i64 0, .slice P0 k0 e0, .slice P1 k1 e1, .slice P2 k2 e2, .bool false] 89 (0, 0)) ∧ w5.heap.size ≤ X ∧ Runs wx (.slice P0 k0 e0) [(1, 1, 2), (2, 1, 2)] ∧ Runs wx (.slice P1 k1 e1) [] ∧ Runs wx (.slice P2 k2 e2) [] ∧ Below w5.heap.size w5 wx)
    case first =>
      have lZ := HasO.lt sea_5.out
      have Q1 := Lib.hid (show Holds w5 [(Z, 0, .int .i64 5), (Z, 1, .int .i64 5), (Z, 2, .int .i64 100), (Z, 3, .slice L 5 lc), (Z, 4, .slice (some ⟨b1, 0, none⟩) 1 1), (Z, 5, .slice (some ⟨b2, 0, none⟩) 1 1), (Z, 6, .int .i64 20), (Z, 7, .int .i64 20), (Z, 8, .int .i64 10), (Z, 9, .int .i64 20), (Z, 10, .bool false)] from (.cons lZ (HasO.cell (i := 0) sea_5.out rfl) (.cons lZ (HasO.cell (i := 1) sea_5.out rfl) (.cons lZ (HasO.cell (i := 2) sea_5.out rfl) (.cons lZ (HasO.cell (i := 3) sea_5.out rfl) (.cons lZ (HasO.cell (i := 4) sea_5.out rfl) (.cons lZ (HasO.cell (i := 5) sea_5.out rfl) (.cons lZ (HasO.cell (i := 6) sea_5.out rfl) (.cons lZ (HasO.cell (i := 7) sea_5.out rfl) (.cons lZ (HasO.cell (i := 8) sea_5.out rfl) (.cons lZ (HasO.cell (i := 9) sea_5.out rfl) (.cons lZ (HasO.cell (i := 10) sea_5.out rfl) (.nil _)))))))))))))
      have LT := Lib.hid Q1.out.lt
      clear lZ
      go_region_held3 (fun W' => W'.cell? ⟨Z, 0, none⟩ = some (.int .i64 5) ∧ W'.cell? ⟨Z, 1, none⟩ = some (.int .i64 5) ∧ W'.cell? ⟨Z, 2, none⟩ = some (.int .i64 100) ∧ W'.cell? ⟨Z, 3, none⟩ = some (.slice L 5 lc) ∧ W'.cell? ⟨Z, 4, none⟩ = some (.slice (some ⟨b1, 0, none⟩) 1 1) ∧ W'.cell? ⟨Z, 5, none⟩ = some (.slice (some ⟨b2, 0, none⟩) 1 1) ∧ W'.cell? ⟨Z, 6, none⟩ = some (.int .i64 20) ∧ W'.cell? ⟨Z, 7, none⟩ = some (.int .i64 20) ∧ W'.cell? ⟨Z, 8, none⟩ = some (.int .i64 10) ∧ W'.cell? ⟨Z, 9, none⟩ = some (.int .i64 20) ∧ W'.cell? ⟨Z, 10, none⟩ = some (.bool false))
        (first | with_reducible exact holds11 Q1.out | with_reducible exact holds11 (.drew Q1.out) | with_reducible exact holds11 (Q1.out.alloc _) | with_reducible exact holds11 (.drew (Q1.out.alloc _)) | with_reducible exact holds11 (((((Q1.out.setNew LT.out _ _ _ (by omega)).setNew LT.out _ _ _ (by omega)).setNew LT.out _ _ _ (by omega)).setNew LT.out _ _ _ (by omega)).setNew LT.out _ _ _ (by omega)) | with_reducible exact holds11 ((((((Q1.out.alloc _).setNew LT.out _ _ _ (by omega)).setNew LT.out _ _ _ (by omega)).setNew LT.out _ _ _ (by omega)).setNew LT.out _ _ _ (by omega)).setNew LT.out _ _ _ (by omega)) | with_reducible exact holds11 ((((((Q1.out.setNew LT.out _ _ _ (by omega)).setNew LT.out _ _ _ (by omega)).setNew LT.out _ _ _ (by omega)).setNew LT.out _ _ _ (by omega)).setNew LT.out _ _ _ (by omega)).alloc _) | with_reducible exact holds11 Q2.out | with_reducible exact holds11 (.drew Q2.out) | with_reducible exact holds11 (Q2.out.alloc _) | with_reducible exact holds11 (.drew (Q2.out.alloc _)) | with_reducible exact holds11 (((((Q2.out.setNew LT.out _ _ _ (by omega)).setNew LT.out _ _ _ (by omega)).setNew LT.out _ _ _ (by omega)).setNew LT.out _ _ _ (by omega)).setNew LT.out _ _ _ (by omega)) | with_reducible exact holds11 ((((((Q2.out.alloc _).setNew LT.out _ _ _ (by omega)).setNew LT.out _ _ _ (by omega)).setNew LT.out _ _ _ (by omega)).setNew LT.out _ _ _ (by omega)).setNew LT.out _ _ _ (by omega)) | with_reducible exact holds11 ((((((Q2.out.setNew LT.out _ _ _ (by omega)).setNew LT.out _ _ _ (by omega)).setNew LT.out _ _ _ (by omega)).setNew LT.out _ _ _ (by omega)).setNew LT.out _ _ _ (by omega)).alloc _) | with_reducible exact holds11 Q3.out | with_reducible exact holds11 (.drew Q3.out) | with_reducible exact holds11 (Q3.out.alloc _) | with_reducible exact holds11 (.drew (Q3.out.alloc _)) | with_reducible exact holds11 (((((Q3.out.setNew LT.out _ _ _ (by omega)).setNew LT.out _ _ _ (by omega)).setNew LT.out _ _ _ (by omega)).setNew LT.out _ _ _ (by omega)).setNew LT.out _ _ _ (by omega)) | with_reducible exact holds11 ((((((Q3.out.alloc _).setNew LT.out _ _ _ (by omega)).setNew LT.out _ _ _ (by omega)).setNew LT.out _ _ _ (by omega)).setNew LT.out _ _ _ (by omega)).setNew LT.out _ _ _ (by omega)) | with_reducible exact holds11 ((((((Q3.out.setNew LT.out _ _ _ (by omega)).setNew LT.out _ _ _ (by omega)).setNew LT.out _ _ _ (by omega)).setNew LT.out _ _ _ (by omega)).setNew LT.out _ _ _ (by omega)).alloc _) | fail)
        (first | (go_at_call 46; (refine (at4_dn 2 2 _ (by omega)).mono ?_); rintro e x6a ⟨⟨A1, rfl, hrA1⟩, hb⟩; (with_reducible first | (have kba : Below w5.heap.size w5 x6a := below_plain (below_of_drew hb)) | (have kba : Below w5.heap.size w5 x6a := below_made (below_of_drew hb))); have ssa := kba.size; (first | (have HZ := Lib.hid (show HasO x6a w5.heap.size (.cells #[.int .i64 0, .slice none 0 0, .slice none 0 0, .slice none 0 0, .bool false] 89 (0, 0)) from HasO.below (HasO.drewR (HasO.newR rfl)) hb)) | skip); have Q2 := Lib.hid (Q1.out.below kba); have HRA1 := Lib.hid hrA1; have HBy := Lib.hid (HBY.out.below kba); clear hrA1; have HS := Lib.hid (fun W (hW : Below x6a.heap.size x6a W) => Before_ok L A (some ⟨A1, 0, none⟩) lc b1 b2 ca 1 W (HBy.out.below hW) (HRA1.out.below hW)); clear hb; skip) | (go_at_call 47; (refine (HS.out _ (by first | exact Below.refl _ _ | exact (Below.refl _ _).alloc (Nat.le_refl _) _)).mono ?_); rintro e x6b ⟨⟨P0, P1, P2, k0, k1, k2, e0, e1, e2, rfl, hr0, hr1, hr2⟩, hb⟩; (with_reducible first | (have kbb : Below x6a.heap.size x6a x6b := below_plain hb) | (have kbb : Below x6a.heap.size x6a x6b := below_made hb)); have ssb := kbb.size; (first | (have HZ := Lib.hid (show HasO x6b w5.heap.size (.cells #[.int .i64 0, .slice none 0 0, .slice none 0 0, .slice none 0 0, .bool false] 89 (0, 0)) from HZ.out.below kbb)) | (have HZ := Lib.hid (HZ.out.below kbb)) | (have HZ := Lib.hid (show HasO x6b x6a.heap.size (.cells #[.int .i64 0, .slice none 0 0, .slice none 0 0, .slice none 0 0, .bool false] 89 (0, 0)) from HasO.below (HasO.newR rfl) hb)) | skip); have Q3 := Lib.hid (Q2.out.below kbb); have HR0 := Lib.hid hr0; have HR1 := Lib.hid hr1; have HR2 := Lib.hid hr2; clear hr0 hr1 hr2; (try (have zc0 := HasO.cell (i := 0) HZ.out rfl; have zf0 := HasO.frozen (i := 0) HZ.out; have zc1 := HasO.cell (i := 1) HZ.out rfl; have zf1 := HasO.frozen (i := 1) HZ.out; have zc2 := HasO.cell (i := 2) HZ.out rfl; have zf2 := HasO.frozen (i := 2) HZ.out; have zc3 := HasO.cell (i := 3) HZ.out rfl; have zf3 := HasO.frozen (i := 3) HZ.out; have zc4 := HasO.cell (i := 4) HZ.out rfl; have zf4 := HasO.frozen (i := 4) HZ.out)); clear hb; skip))
      all_goals
        rename_i hHeld
        clear hHeld
        go_wp2_with fail
        go_meet
        have kE : Below w5.heap.size w5 x6b := (kba.trans (kbb.mono (by omega)))
        (first | (have hbx := boxOld 0 P0 P1 P2 k0 k1 k2 e0 e1 e2 false kE HZ.out (by omega); exact ⟨_, P0, P1, P2, k0, k1, k2, e0, e1, e2, rfl, rfl, hbx.has, hbx.le, hbx.runs _ _ HR0.out, hbx.runs _ _ HR1.out, hbx.runs _ _ HR2.out, hbx.bel⟩) | (have hbx := boxFold 0 P0 P1 P2 k0 k1 k2 e0 e1 e2 false kE; exact ⟨_, P0, P1, P2, k0, k1, k2, e0, e1, e2, rfl, rfl, hbx.has, hbx.le, hbx.runs _ _ HR0.out, hbx.runs _ _ HR1.out, hbx.runs _ _ HR2.out, hbx.bel⟩) | (have hbx := boxNew 0 P0 P1 P2 k0 k1 k2 e0 e1 e2 false kE; exact ⟨_, P0, P1, P2, k0, k1, k2, e0, e1, e2, rfl, rfl, hbx.has, hbx.le, hbx.runs _ _ HR0.out, hbx.runs _ _ HR1.out, hbx.runs _ _ HR2.out, hbx.bel⟩))
    case rest =>
      obtain ⟨w6, hwc⟩ : ∃ z, z = wc := ⟨_, rfl⟩
      subst hwc
      obtain ⟨Y, D0, D1, D2, j0, j1, j2, f0, f1, f2, rfl, rfl, hX, leY, hr0, hr1, hr2, kc⟩ := hcut
      have S6 := kc.size
      have HB_6 := Lib.hid (HB_5.out.below kc)
      have sea_6 := Lib.hid (sea_5.out.below kc)
      have push_6 := Lib.hid (push_5.out.below kc)
      have bx_6 := Lib.hid (bx_h5.out.below kc)
      have r1_6 := Lib.hid (r1_h5.out.below kc)
      have r2_6 := Lib.hid (r2_h5.out.below kc)
      have BB6 := Lib.hid (BB5.out.trans (kc.mono BB5.out.size))
      clear kc HB_5 sea_5 push_5 bx_h5 r1_h5 r2_h5 BB5
      have by_h6 := Lib.hid (hX)
      have s0_h6 := Lib.hid (hr0)
      have s1_h6 := Lib.hid (hr1)
      clear hX hr0 hr1
      have hk : j0 = 2 := Runs.len s0_h6.out
      subst hk
      have hk : j1 = 0 := Runs.len s1_h6.out
      subst hk
      go_upto_region 5 with fail
      clear HBY
      have HBY := Lib.hid (HB_6.out)
      go_cut [8, 9] from 54 to 65 (fun p e wx => ∃ X, p = .pointer (some ⟨X, 0, none⟩) ∧ e = .int .i64 4 ∧ Below w6.heap.size w6 wx)
      case first =>
        have lZ := HasO.lt sea_6.out
        have Q1 := Lib.hid (show Holds w6 [(Z, 0, .int .i64 5), (Z, 1, .int .i64 5), (Z, 2, .int .i64 100), (Z, 3, .slice L 5 lc), (Z, 4, .slice (some ⟨b1, 0, none⟩) 1 1), (Z, 5, .slice (some ⟨b2, 0, none⟩) 1 1), (Z, 6, .int .i64 20), (Z, 7, .int .i64 20), (Z, 8, .int .i64 10), (Z, 9, .int .i64 20), (Z, 10, .bool false)] from (.cons lZ (HasO.cell (i := 0) sea_6.out rfl) (.cons lZ (HasO.cell (i := 1) sea_6.out rfl) (.cons lZ (HasO.cell (i := 2) sea_6.out rfl) (.cons lZ (HasO.cell (i := 3) sea_6.out rfl) (.cons lZ (HasO.cell (i := 4) sea_6.out rfl) (.cons lZ (HasO.cell (i := 5) sea_6.out rfl) (.cons lZ (HasO.cell (i := 6) sea_6.out rfl) (.cons lZ (HasO.cell (i := 7) sea_6.out rfl) (.cons lZ (HasO.cell (i := 8) sea_6.out rfl) (.cons lZ (HasO.cell (i := 9) sea_6.out rfl) (.cons lZ (HasO.cell (i := 10) sea_6.out rfl) (.nil _)))))))))))))
        have LT := Lib.hid Q1.out.lt
        clear lZ
        go_region_held3 (fun W' => W'.cell? ⟨Z, 0, none⟩ = some (.int .i64 5) ∧ W'.cell? ⟨Z, 1, none⟩ = some (.int .i64 5) ∧ W'.cell? ⟨Z, 2, none⟩ = some (.int .i64 100) ∧ W'.cell? ⟨Z, 3, none⟩ = some (.slice L 5 lc) ∧ W'.cell? ⟨Z, 4, none⟩ = some (.slice (some ⟨b1, 0, none⟩) 1 1) ∧ W'.cell? ⟨Z, 5, none⟩ = some (.slice (some ⟨b2, 0, none⟩) 1 1) ∧ W'.cell? ⟨Z, 6, none⟩ = some (.int .i64 20) ∧ W'.cell? ⟨Z, 7, none⟩ = some (.int .i64 20) ∧ W'.cell? ⟨Z, 8, none⟩ = some (.int .i64 10) ∧ W'.cell? ⟨Z, 9, none⟩ = some (.int .i64 20) ∧ W'.cell? ⟨Z, 10, none⟩ = some (.bool false))
          (first | with_reducible exact holds11 Q1.out | with_reducible exact holds11 (.drew Q1.out) | with_reducible exact holds11 (Q1.out.alloc _) | with_reducible exact holds11 (.drew (Q1.out.alloc _)) | with_reducible exact holds11 (((((Q1.out.setNew LT.out _ _ _ (by omega)).setNew LT.out _ _ _ (by omega)).setNew LT.out _ _ _ (by omega)).setNew LT.out _ _ _ (by omega)).setNew LT.out _ _ _ (by omega)) | with_reducible exact holds11 ((((((Q1.out.alloc _).setNew LT.out _ _ _ (by omega)).setNew LT.out _ _ _ (by omega)).setNew LT.out _ _ _ (by omega)).setNew LT.out _ _ _ (by omega)).setNew LT.out _ _ _ (by omega)) | with_reducible exact holds11 ((((((Q1.out.setNew LT.out _ _ _ (by omega)).setNew LT.out _ _ _ (by omega)).setNew LT.out _ _ _ (by omega)).setNew LT.out _ _ _ (by omega)).setNew LT.out _ _ _ (by omega)).alloc _) | with_reducible exact holds11 Q2.out | with_reducible exact holds11 (.drew Q2.out) | with_reducible exact holds11 (Q2.out.alloc _) | with_reducible exact holds11 (.drew (Q2.out.alloc _)) | with_reducible exact holds11 (((((Q2.out.setNew LT.out _ _ _ (by omega)).setNew LT.out _ _ _ (by omega)).setNew LT.out _ _ _ (by omega)).setNew LT.out _ _ _ (by omega)).setNew LT.out _ _ _ (by omega)) | with_reducible exact holds11 ((((((Q2.out.alloc _).setNew LT.out _ _ _ (by omega)).setNew LT.out _ _ _ (by omega)).setNew LT.out _ _ _ (by omega)).setNew LT.out _ _ _ (by omega)).setNew LT.out _ _ _ (by omega)) | with_reducible exact holds11 ((((((Q2.out.setNew LT.out _ _ _ (by omega)).setNew LT.out _ _ _ (by omega)).setNew LT.out _ _ _ (by omega)).setNew LT.out _ _ _ (by omega)).setNew LT.out _ _ _ (by omega)).alloc _) | with_reducible exact holds11 Q3.out | with_reducible exact holds11 (.drew Q3.out) | with_reducible exact holds11 (Q3.out.alloc _) | with_reducible exact holds11 (.drew (Q3.out.alloc _)) | with_reducible exact holds11 (((((Q3.out.setNew LT.out _ _ _ (by omega)).setNew LT.out _ _ _ (by omega)).setNew LT.out _ _ _ (by omega)).setNew LT.out _ _ _ (by omega)).setNew LT.out _ _ _ (by omega)) | with_reducible exact holds11 ((((((Q3.out.alloc _).setNew LT.out _ _ _ (by omega)).setNew LT.out _ _ _ (by omega)).setNew LT.out _ _ _ (by omega)).setNew LT.out _ _ _ (by omega)).setNew LT.out _ _ _ (by omega)) | with_reducible exact holds11 ((((((Q3.out.setNew LT.out _ _ _ (by omega)).setNew LT.out _ _ _ (by omega)).setNew LT.out _ _ _ (by omega)).setNew LT.out _ _ _ (by omega)).setNew LT.out _ _ _ (by omega)).alloc _) | fail)
          (first | (go_at_call 46; (refine (at4_dn 2 2 _ (by omega)).mono ?_); rintro e x7a ⟨⟨A1, rfl, hrA1⟩, hb⟩; (with_reducible first | (have kba : Below w6.heap.size w6 x7a := below_plain (below_of_drew hb)) | (have kba : Below w6.heap.size w6 x7a := below_made (below_of_drew hb))); have ssa := kba.size; (first | (have HZ := Lib.hid (show HasO x7a w6.heap.size (.cells #[.int .i64 0, .slice none 0 0, .slice none 0 0, .slice none 0 0, .bool false] 89 (0, 0)) from HasO.below (HasO.drewR (HasO.newR rfl)) hb)) | skip); have Q2 := Lib.hid (Q1.out.below kba); have HRA1 := Lib.hid hrA1; have HBy := Lib.hid (HBY.out.below kba); clear hrA1; have HS := Lib.hid (fun W (hW : Below x7a.heap.size x7a W) => Before_early L A (some ⟨A1, 0, none⟩) lc b1 b2 ca 1 W (HBy.out.below hW) (HRA1.out.below hW)); clear hb; skip) | (go_at_call 47; (refine (HS.out _ (by first | exact Below.refl _ _ | exact (Below.refl _ _).alloc (Nat.le_refl _) _)).mono ?_); rintro e x7b ⟨rfl, hb⟩; (with_reducible first | (have kbb : Below x7a.heap.size x7a x7b := below_plain hb) | (have kbb : Below x7a.heap.size x7a x7b := below_made hb)); have ssb := kbb.size; (first | (have HZ := Lib.hid (show HasO x7b w6.heap.size (.cells #[.int .i64 0, .slice none 0 0, .slice none 0 0, .slice none 0 0, .bool false] 89 (0, 0)) from HZ.out.below kbb)) | (have HZ := Lib.hid (HZ.out.below kbb)) | (have HZ := Lib.hid (show HasO x7b x7a.heap.size (.cells #[.int .i64 0, .slice none 0 0, .slice none 0 0, .slice none 0 0, .bool false] 89 (0, 0)) from HasO.below (HasO.newR rfl) hb)) | skip); have Q3 := Lib.hid (Q2.out.below kbb); (try (have zc0 := HasO.cell (i := 0) HZ.out rfl; have zf0 := HasO.frozen (i := 0) HZ.out; have zc1 := HasO.cell (i := 1) HZ.out rfl; have zf1 := HasO.frozen (i := 1) HZ.out; have zc2 := HasO.cell (i := 2) HZ.out rfl; have zf2 := HasO.frozen (i := 2) HZ.out; have zc3 := HasO.cell (i := 3) HZ.out rfl; have zf3 := HasO.frozen (i := 3) HZ.out; have zc4 := HasO.cell (i := 4) HZ.out rfl; have zf4 := HasO.frozen (i := 4) HZ.out)); clear hb; skip))
        all_goals
          rename_i hHeld
          clear hHeld
          go_wp2_with fail
          go_meet
          have kE : Below w6.heap.size w6 x7b := (kba.trans (kbb.mono (by omega)))
          (first | (have hbx := boxOld 0 none none none 0 0 0 0 0 0 false kE HZ.out (by omega); exact ⟨_, rfl, rfl, hbx.bel⟩) | (have hbx := boxFold 0 none none none 0 0 0 0 0 0 false kE; exact ⟨_, rfl, rfl, hbx.bel⟩) | (have hbx := boxNew 0 none none none 0 0 0 0 0 0 false kE; exact ⟨_, rfl, rfl, hbx.bel⟩))
      case rest =>
        obtain ⟨w7, hwc⟩ : ∃ z, z = wc := ⟨_, rfl⟩
        subst hwc
        obtain ⟨V1, rfl, rfl, kc⟩ := hcut
        have S7 := kc.size
        have HB_7 := Lib.hid (HB_6.out.below kc)
        have sea_7 := Lib.hid (sea_6.out.below kc)
        have push_7 := Lib.hid (push_6.out.below kc)
        have bx_7 := Lib.hid (bx_6.out.below kc)
        have r1_7 := Lib.hid (r1_6.out.below kc)
        have r2_7 := Lib.hid (r2_6.out.below kc)
        have by_7 := Lib.hid (by_h6.out.below kc)
        have s0_7 := Lib.hid (s0_h6.out.below kc)
        have s1_7 := Lib.hid (s1_h6.out.below kc)
        have BB7 := Lib.hid (BB6.out.trans (kc.mono BB6.out.size))
        clear kc HB_6 sea_6 push_6 bx_6 r1_6 r2_6 by_h6 s0_h6 s1_h6 BB6
        have q7sea0 := HasO.cell (i := 0) sea_7.out rfl
        have q7sea1 := HasO.cell (i := 1) sea_7.out rfl
        have q7sea2 := HasO.cell (i := 2) sea_7.out rfl
        have q7sea3 := HasO.cell (i := 3) sea_7.out rfl
        have q7sea4 := HasO.cell (i := 4) sea_7.out rfl
        have q7sea5 := HasO.cell (i := 5) sea_7.out rfl
        have q7sea6 := HasO.cell (i := 6) sea_7.out rfl
        have q7sea7 := HasO.cell (i := 7) sea_7.out rfl
        have q7sea8 := HasO.cell (i := 8) sea_7.out rfl
        have q7sea9 := HasO.cell (i := 9) sea_7.out rfl
        have q7sea10 := HasO.cell (i := 10) sea_7.out rfl
        go_wp2_with fail
        refine (Push_nil L lc _ HB_7.out.1).mono ?_
        rintro e w8 ⟨rfl, hb8⟩
        have k8 : Below w7.heap.size w7 w8 := hb8
        clear hb8
        have S8 := k8.size
        have HB_8 := Lib.hid (HB_7.out.below k8)
        have sea_8 := Lib.hid (sea_7.out.below k8)
        have push_8 := Lib.hid (push_7.out.below k8)
        have bx_8 := Lib.hid (bx_7.out.below k8)
        have r1_8 := Lib.hid (r1_7.out.below k8)
        have r2_8 := Lib.hid (r2_7.out.below k8)
        have by_8 := Lib.hid (by_7.out.below k8)
        have s0_8 := Lib.hid (s0_7.out.below k8)
        have s1_8 := Lib.hid (s1_7.out.below k8)
        have BB8 := Lib.hid (BB7.out.trans (k8.mono BB7.out.size))
        clear k8 HB_7 sea_7 push_7 bx_7 r1_7 r2_7 by_7 s0_7 s1_7 BB7
        clear q7sea0 q7sea1 q7sea2 q7sea3 q7sea4 q7sea5 q7sea6 q7sea7 q7sea8 q7sea9 q7sea10
        go_upto_region 7 with fail
        obtain ⟨O, hO⟩ : ∃ Z, w8.heap.size = Z := ⟨_, rfl⟩
        obtain ⟨w9, hw9⟩ : ∃ Z, (w8.alloc (.cells #[.int .i64 0, .int .i64 0, .int .i64 0, .int .i64 0] 28)) = Z := ⟨_, rfl⟩
        have k9 : Below w8.heap.size w8 w9 := by rw [← hw9]; exact ((Below.refl _ _).alloc (Nat.le_refl _) _)
        have z9 : O < w9.heap.size := by rw [← hw9, ← hO]; simp
        have y9 : w8.heap.size = O := hO
        have pn_9 : HasO w9 (O) (.cells #[.int .i64 0, .int .i64 0, .int .i64 0, .int .i64 0] 28 (0, 0)) := by rw [← hw9, ← hO]; have h := (HasO.new (w := w8) (o := .cells #[.int .i64 0, .int .i64 0, .int .i64 0, .int .i64 0] 28) rfl); simpa only [World.size_alloc] using h
        (try rw [hw9]); (try rw [hO])
        clear hw9 hO
        have S9 := k9.size
        have HB_9 := Lib.hid (HB_8.out.below k9)
        have sea_9 := Lib.hid (sea_8.out.below k9)
        have push_9 := Lib.hid (push_8.out.below k9)
        have bx_9 := Lib.hid (bx_8.out.below k9)
        have r1_9 := Lib.hid (r1_8.out.below k9)
        have r2_9 := Lib.hid (r2_8.out.below k9)
        have by_9 := Lib.hid (by_8.out.below k9)
        have s0_9 := Lib.hid (s0_8.out.below k9)
        have s1_9 := Lib.hid (s1_8.out.below k9)
        have BB9 := Lib.hid (BB8.out.trans (k9.mono BB8.out.size))
        clear k9 HB_8 sea_8 push_8 bx_8 r1_8 r2_8 by_8 s0_8 s1_8 BB8
        have pnH_9 := Lib.hid pn_9
        clear pn_9
        clear pnH_9
        clear HBY
        have HBY := Lib.hid (HB_9.out)
        go_cut [12, 13] from 76 to 87 (fun p e wx => ∃ X, p = .pointer (some ⟨X, 0, none⟩) ∧ e = .int .i64 2 ∧ Below w9.heap.size w9 wx)
        case first =>
          have lZ := HasO.lt sea_9.out
          have Q1 := Lib.hid (show Holds w9 [(Z, 0, .int .i64 5), (Z, 1, .int .i64 5), (Z, 2, .int .i64 100), (Z, 3, .slice L 5 lc), (Z, 4, .slice (some ⟨b1, 0, none⟩) 1 1), (Z, 5, .slice (some ⟨b2, 0, none⟩) 1 1), (Z, 6, .int .i64 20), (Z, 7, .int .i64 20), (Z, 8, .int .i64 10), (Z, 9, .int .i64 20), (Z, 10, .bool false)] from (.cons lZ (HasO.cell (i := 0) sea_9.out rfl) (.cons lZ (HasO.cell (i := 1) sea_9.out rfl) (.cons lZ (HasO.cell (i := 2) sea_9.out rfl) (.cons lZ (HasO.cell (i := 3) sea_9.out rfl) (.cons lZ (HasO.cell (i := 4) sea_9.out rfl) (.cons lZ (HasO.cell (i := 5) sea_9.out rfl) (.cons lZ (HasO.cell (i := 6) sea_9.out rfl) (.cons lZ (HasO.cell (i := 7) sea_9.out rfl) (.cons lZ (HasO.cell (i := 8) sea_9.out rfl) (.cons lZ (HasO.cell (i := 9) sea_9.out rfl) (.cons lZ (HasO.cell (i := 10) sea_9.out rfl) (.nil _)))))))))))))
          have LT := Lib.hid Q1.out.lt
          clear lZ
          go_region_held3 (fun W' => W'.cell? ⟨Z, 0, none⟩ = some (.int .i64 5) ∧ W'.cell? ⟨Z, 1, none⟩ = some (.int .i64 5) ∧ W'.cell? ⟨Z, 2, none⟩ = some (.int .i64 100) ∧ W'.cell? ⟨Z, 3, none⟩ = some (.slice L 5 lc) ∧ W'.cell? ⟨Z, 4, none⟩ = some (.slice (some ⟨b1, 0, none⟩) 1 1) ∧ W'.cell? ⟨Z, 5, none⟩ = some (.slice (some ⟨b2, 0, none⟩) 1 1) ∧ W'.cell? ⟨Z, 6, none⟩ = some (.int .i64 20) ∧ W'.cell? ⟨Z, 7, none⟩ = some (.int .i64 20) ∧ W'.cell? ⟨Z, 8, none⟩ = some (.int .i64 10) ∧ W'.cell? ⟨Z, 9, none⟩ = some (.int .i64 20) ∧ W'.cell? ⟨Z, 10, none⟩ = some (.bool false))
            (first | with_reducible exact holds11 Q1.out | with_reducible exact holds11 (.drew Q1.out) | with_reducible exact holds11 (Q1.out.alloc _) | with_reducible exact holds11 (.drew (Q1.out.alloc _)) | with_reducible exact holds11 (((((Q1.out.setNew LT.out _ _ _ (by omega)).setNew LT.out _ _ _ (by omega)).setNew LT.out _ _ _ (by omega)).setNew LT.out _ _ _ (by omega)).setNew LT.out _ _ _ (by omega)) | with_reducible exact holds11 ((((((Q1.out.alloc _).setNew LT.out _ _ _ (by omega)).setNew LT.out _ _ _ (by omega)).setNew LT.out _ _ _ (by omega)).setNew LT.out _ _ _ (by omega)).setNew LT.out _ _ _ (by omega)) | with_reducible exact holds11 ((((((Q1.out.setNew LT.out _ _ _ (by omega)).setNew LT.out _ _ _ (by omega)).setNew LT.out _ _ _ (by omega)).setNew LT.out _ _ _ (by omega)).setNew LT.out _ _ _ (by omega)).alloc _) | with_reducible exact holds11 Q2.out | with_reducible exact holds11 (.drew Q2.out) | with_reducible exact holds11 (Q2.out.alloc _) | with_reducible exact holds11 (.drew (Q2.out.alloc _)) | with_reducible exact holds11 (((((Q2.out.setNew LT.out _ _ _ (by omega)).setNew LT.out _ _ _ (by omega)).setNew LT.out _ _ _ (by omega)).setNew LT.out _ _ _ (by omega)).setNew LT.out _ _ _ (by omega)) | with_reducible exact holds11 ((((((Q2.out.alloc _).setNew LT.out _ _ _ (by omega)).setNew LT.out _ _ _ (by omega)).setNew LT.out _ _ _ (by omega)).setNew LT.out _ _ _ (by omega)).setNew LT.out _ _ _ (by omega)) | with_reducible exact holds11 ((((((Q2.out.setNew LT.out _ _ _ (by omega)).setNew LT.out _ _ _ (by omega)).setNew LT.out _ _ _ (by omega)).setNew LT.out _ _ _ (by omega)).setNew LT.out _ _ _ (by omega)).alloc _) | with_reducible exact holds11 Q3.out | with_reducible exact holds11 (.drew Q3.out) | with_reducible exact holds11 (Q3.out.alloc _) | with_reducible exact holds11 (.drew (Q3.out.alloc _)) | with_reducible exact holds11 (((((Q3.out.setNew LT.out _ _ _ (by omega)).setNew LT.out _ _ _ (by omega)).setNew LT.out _ _ _ (by omega)).setNew LT.out _ _ _ (by omega)).setNew LT.out _ _ _ (by omega)) | with_reducible exact holds11 ((((((Q3.out.alloc _).setNew LT.out _ _ _ (by omega)).setNew LT.out _ _ _ (by omega)).setNew LT.out _ _ _ (by omega)).setNew LT.out _ _ _ (by omega)).setNew LT.out _ _ _ (by omega)) | with_reducible exact holds11 ((((((Q3.out.setNew LT.out _ _ _ (by omega)).setNew LT.out _ _ _ (by omega)).setNew LT.out _ _ _ (by omega)).setNew LT.out _ _ _ (by omega)).setNew LT.out _ _ _ (by omega)).alloc _) | fail)
            (first | (go_at_call 46; (refine (at4_dn 4 1 _ (by omega)).mono ?_); rintro e x10a ⟨⟨A1, rfl, hrA1⟩, hb⟩; (with_reducible first | (have kba : Below w9.heap.size w9 x10a := below_plain (below_of_drew hb)) | (have kba : Below w9.heap.size w9 x10a := below_made (below_of_drew hb))); have ssa := kba.size; (first | (have HZ := Lib.hid (show HasO x10a w9.heap.size (.cells #[.int .i64 0, .slice none 0 0, .slice none 0 0, .slice none 0 0, .bool false] 89 (0, 0)) from HasO.below (HasO.drewR (HasO.newR rfl)) hb)) | skip); have Q2 := Lib.hid (Q1.out.below kba); have HRA1 := Lib.hid hrA1; have HBy := Lib.hid (HBY.out.below kba); clear hrA1; have HS := Lib.hid (fun W (hW : Below x10a.heap.size x10a W) => Step_land L A (some ⟨A1, 0, none⟩) lc b1 b2 ca 1 W (HBy.out.below hW) (HRA1.out.below hW)); clear hb; skip) | (go_at_call 45; (refine (HS.out _ (by first | exact Below.refl _ _ | exact (Below.refl _ _).alloc (Nat.le_refl _) _)).mono ?_); rintro e x10b ⟨rfl, hb⟩; (with_reducible first | (have kbb : Below x10a.heap.size x10a x10b := below_plain hb) | (have kbb : Below x10a.heap.size x10a x10b := below_made hb)); have ssb := kbb.size; (first | (have HZ := Lib.hid (show HasO x10b w9.heap.size (.cells #[.int .i64 0, .slice none 0 0, .slice none 0 0, .slice none 0 0, .bool false] 89 (0, 0)) from HZ.out.below kbb)) | (have HZ := Lib.hid (HZ.out.below kbb)) | (have HZ := Lib.hid (show HasO x10b x10a.heap.size (.cells #[.int .i64 0, .slice none 0 0, .slice none 0 0, .slice none 0 0, .bool false] 89 (0, 0)) from HasO.below (HasO.newR rfl) hb)) | skip); have Q3 := Lib.hid (Q2.out.below kbb); (try (have zc0 := HasO.cell (i := 0) HZ.out rfl; have zf0 := HasO.frozen (i := 0) HZ.out; have zc1 := HasO.cell (i := 1) HZ.out rfl; have zf1 := HasO.frozen (i := 1) HZ.out; have zc2 := HasO.cell (i := 2) HZ.out rfl; have zf2 := HasO.frozen (i := 2) HZ.out; have zc3 := HasO.cell (i := 3) HZ.out rfl; have zf3 := HasO.frozen (i := 3) HZ.out; have zc4 := HasO.cell (i := 4) HZ.out rfl; have zf4 := HasO.frozen (i := 4) HZ.out)); clear hb; skip))
          all_goals
            rename_i hHeld
            clear hHeld
            go_wp2_with fail
            go_meet
            have kE : Below w9.heap.size w9 x10b := (kba.trans (kbb.mono (by omega)))
            (first | (have hbx := boxOld 0 none none none 0 0 0 0 0 0 false kE HZ.out (by omega); exact ⟨_, rfl, rfl, hbx.bel⟩) | (have hbx := boxFold 0 none none none 0 0 0 0 0 0 false kE; exact ⟨_, rfl, rfl, hbx.bel⟩) | (have hbx := boxNew 0 none none none 0 0 0 0 0 0 false kE; exact ⟨_, rfl, rfl, hbx.bel⟩))
        case rest =>
          obtain ⟨w10, hwc⟩ : ∃ z, z = wc := ⟨_, rfl⟩
          subst hwc
          obtain ⟨V2, rfl, rfl, kc⟩ := hcut
          have S10 := kc.size
          have HB_10 := Lib.hid (HB_9.out.below kc)
          have sea_10 := Lib.hid (sea_9.out.below kc)
          have push_10 := Lib.hid (push_9.out.below kc)
          have bx_10 := Lib.hid (bx_9.out.below kc)
          have r1_10 := Lib.hid (r1_9.out.below kc)
          have r2_10 := Lib.hid (r2_9.out.below kc)
          have by_10 := Lib.hid (by_9.out.below kc)
          have s0_10 := Lib.hid (s0_9.out.below kc)
          have s1_10 := Lib.hid (s1_9.out.below kc)
          have BB10 := Lib.hid (BB9.out.trans (kc.mono BB9.out.size))
          clear kc HB_9 sea_9 push_9 bx_9 r1_9 r2_9 by_9 s0_9 s1_9 BB9
          go_upto_region 8 with fail
          clear HBY
          have HBY := Lib.hid (HB_10.out)
          go_cut [14, 15] from 88 to 97 (fun p e wx => ∃ X, p = .pointer (some ⟨X, 0, none⟩) ∧ e = .int .i64 7 ∧ Below w10.heap.size w10 wx)
          case first =>
            have lZ := HasO.lt sea_10.out
            have Q1 := Lib.hid (show Holds w10 [(Z, 0, .int .i64 5), (Z, 1, .int .i64 5), (Z, 2, .int .i64 100), (Z, 3, .slice L 5 lc), (Z, 4, .slice (some ⟨b1, 0, none⟩) 1 1), (Z, 5, .slice (some ⟨b2, 0, none⟩) 1 1), (Z, 6, .int .i64 20), (Z, 7, .int .i64 20), (Z, 8, .int .i64 10), (Z, 9, .int .i64 20), (Z, 10, .bool false)] from (.cons lZ (HasO.cell (i := 0) sea_10.out rfl) (.cons lZ (HasO.cell (i := 1) sea_10.out rfl) (.cons lZ (HasO.cell (i := 2) sea_10.out rfl) (.cons lZ (HasO.cell (i := 3) sea_10.out rfl) (.cons lZ (HasO.cell (i := 4) sea_10.out rfl) (.cons lZ (HasO.cell (i := 5) sea_10.out rfl) (.cons lZ (HasO.cell (i := 6) sea_10.out rfl) (.cons lZ (HasO.cell (i := 7) sea_10.out rfl) (.cons lZ (HasO.cell (i := 8) sea_10.out rfl) (.cons lZ (HasO.cell (i := 9) sea_10.out rfl) (.cons lZ (HasO.cell (i := 10) sea_10.out rfl) (.nil _)))))))))))))
            have LT := Lib.hid Q1.out.lt
            clear lZ
            go_region_held3 (fun W' => W'.cell? ⟨Z, 0, none⟩ = some (.int .i64 5) ∧ W'.cell? ⟨Z, 1, none⟩ = some (.int .i64 5) ∧ W'.cell? ⟨Z, 2, none⟩ = some (.int .i64 100) ∧ W'.cell? ⟨Z, 3, none⟩ = some (.slice L 5 lc) ∧ W'.cell? ⟨Z, 4, none⟩ = some (.slice (some ⟨b1, 0, none⟩) 1 1) ∧ W'.cell? ⟨Z, 5, none⟩ = some (.slice (some ⟨b2, 0, none⟩) 1 1) ∧ W'.cell? ⟨Z, 6, none⟩ = some (.int .i64 20) ∧ W'.cell? ⟨Z, 7, none⟩ = some (.int .i64 20) ∧ W'.cell? ⟨Z, 8, none⟩ = some (.int .i64 10) ∧ W'.cell? ⟨Z, 9, none⟩ = some (.int .i64 20) ∧ W'.cell? ⟨Z, 10, none⟩ = some (.bool false))
              (first | with_reducible exact holds11 Q1.out | with_reducible exact holds11 (.drew Q1.out) | with_reducible exact holds11 (Q1.out.alloc _) | with_reducible exact holds11 (.drew (Q1.out.alloc _)) | with_reducible exact holds11 (((((Q1.out.setNew LT.out _ _ _ (by omega)).setNew LT.out _ _ _ (by omega)).setNew LT.out _ _ _ (by omega)).setNew LT.out _ _ _ (by omega)).setNew LT.out _ _ _ (by omega)) | with_reducible exact holds11 ((((((Q1.out.alloc _).setNew LT.out _ _ _ (by omega)).setNew LT.out _ _ _ (by omega)).setNew LT.out _ _ _ (by omega)).setNew LT.out _ _ _ (by omega)).setNew LT.out _ _ _ (by omega)) | with_reducible exact holds11 ((((((Q1.out.setNew LT.out _ _ _ (by omega)).setNew LT.out _ _ _ (by omega)).setNew LT.out _ _ _ (by omega)).setNew LT.out _ _ _ (by omega)).setNew LT.out _ _ _ (by omega)).alloc _) | with_reducible exact holds11 Q2.out | with_reducible exact holds11 (.drew Q2.out) | with_reducible exact holds11 (Q2.out.alloc _) | with_reducible exact holds11 (.drew (Q2.out.alloc _)) | with_reducible exact holds11 (((((Q2.out.setNew LT.out _ _ _ (by omega)).setNew LT.out _ _ _ (by omega)).setNew LT.out _ _ _ (by omega)).setNew LT.out _ _ _ (by omega)).setNew LT.out _ _ _ (by omega)) | with_reducible exact holds11 ((((((Q2.out.alloc _).setNew LT.out _ _ _ (by omega)).setNew LT.out _ _ _ (by omega)).setNew LT.out _ _ _ (by omega)).setNew LT.out _ _ _ (by omega)).setNew LT.out _ _ _ (by omega)) | with_reducible exact holds11 ((((((Q2.out.setNew LT.out _ _ _ (by omega)).setNew LT.out _ _ _ (by omega)).setNew LT.out _ _ _ (by omega)).setNew LT.out _ _ _ (by omega)).setNew LT.out _ _ _ (by omega)).alloc _) | with_reducible exact holds11 Q3.out | with_reducible exact holds11 (.drew Q3.out) | with_reducible exact holds11 (Q3.out.alloc _) | with_reducible exact holds11 (.drew (Q3.out.alloc _)) | with_reducible exact holds11 (((((Q3.out.setNew LT.out _ _ _ (by omega)).setNew LT.out _ _ _ (by omega)).setNew LT.out _ _ _ (by omega)).setNew LT.out _ _ _ (by omega)).setNew LT.out _ _ _ (by omega)) | with_reducible exact holds11 ((((((Q3.out.alloc _).setNew LT.out _ _ _ (by omega)).setNew LT.out _ _ _ (by omega)).setNew LT.out _ _ _ (by omega)).setNew LT.out _ _ _ (by omega)).setNew LT.out _ _ _ (by omega)) | with_reducible exact holds11 ((((((Q3.out.setNew LT.out _ _ _ (by omega)).setNew LT.out _ _ _ (by omega)).setNew LT.out _ _ _ (by omega)).setNew LT.out _ _ _ (by omega)).setNew LT.out _ _ _ (by omega)).alloc _) | with_reducible exact holds11 Q4.out | with_reducible exact holds11 (.drew Q4.out) | with_reducible exact holds11 (Q4.out.alloc _) | with_reducible exact holds11 (.drew (Q4.out.alloc _)) | with_reducible exact holds11 (((((Q4.out.setNew LT.out _ _ _ (by omega)).setNew LT.out _ _ _ (by omega)).setNew LT.out _ _ _ (by omega)).setNew LT.out _ _ _ (by omega)).setNew LT.out _ _ _ (by omega)) | with_reducible exact holds11 ((((((Q4.out.alloc _).setNew LT.out _ _ _ (by omega)).setNew LT.out _ _ _ (by omega)).setNew LT.out _ _ _ (by omega)).setNew LT.out _ _ _ (by omega)).setNew LT.out _ _ _ (by omega)) | with_reducible exact holds11 ((((((Q4.out.setNew LT.out _ _ _ (by omega)).setNew LT.out _ _ _ (by omega)).setNew LT.out _ _ _ (by omega)).setNew LT.out _ _ _ (by omega)).setNew LT.out _ _ _ (by omega)).alloc _) | fail)
              (first | (go_at_call 46; (refine (at4_dn 1 1 _ (by omega)).mono ?_); rintro e x11a ⟨⟨A1, rfl, hrA1⟩, hb⟩; (with_reducible first | (have kba : Below w10.heap.size w10 x11a := below_plain (below_of_drew hb)) | (have kba : Below w10.heap.size w10 x11a := below_made (below_of_drew hb))); have ssa := kba.size; (first | (have HZ := Lib.hid (show HasO x11a w10.heap.size (.cells #[.int .i64 0, .slice none 0 0, .slice none 0 0, .slice none 0 0, .bool false] 89 (0, 0)) from HasO.below (HasO.drewR (HasO.newR rfl)) hb)) | skip); have Q2 := Lib.hid (Q1.out.below kba); have HRA1 := Lib.hid hrA1; have HBy := Lib.hid (HBY.out.below kba); clear hrA1; clear hb; skip) | (go_at_call 46; (refine (at4_dn 1 1 _ (by omega)).mono ?_); rintro e x11b ⟨⟨A2, rfl, hrA2⟩, hb⟩; (with_reducible first | (have kbb : Below x11a.heap.size x11a x11b := below_plain hb) | (have kbb : Below x11a.heap.size x11a x11b := below_made hb)); have ssb := kbb.size; (first | (have HZ := Lib.hid (show HasO x11b w10.heap.size (.cells #[.int .i64 0, .slice none 0 0, .slice none 0 0, .slice none 0 0, .bool false] 89 (0, 0)) from HZ.out.below kbb)) | (have HZ := Lib.hid (HZ.out.below kbb)) | (have HZ := Lib.hid (show HasO x11b x11a.heap.size (.cells #[.int .i64 0, .slice none 0 0, .slice none 0 0, .slice none 0 0, .bool false] 89 (0, 0)) from HasO.below (HasO.newR rfl) hb)) | skip); have Q3 := Lib.hid (Q2.out.below kbb); have HRA2 := Lib.hid hrA2; have HRA1 := Lib.hid (HRA1.out.below kbb); have HBy := Lib.hid (HBy.out.below kbb); clear hrA2; have HS := Lib.hid (fun W (hW : Below x11b.heap.size x11b W) => Meet_dn L (some ⟨A1, 0, none⟩) none none (some ⟨A2, 0, none⟩) lc 1 0 1 0 0 1 0 1 [(1, 1, 2)] [] [] [(1, 1, 2)] W (HBy.out.1.below hW) (HRA1.out.below hW) (Lst.nil _) (Lst.nil _) (HRA2.out.below hW) afl_a afl_n afl_n afl_a apart_a apart_b); clear hb; skip) | (go_at_call 48; (refine (HS.out _ (by first | exact Below.refl _ _ | exact (Below.refl _ _).alloc (Nat.le_refl _) _)).mono ?_); rintro e x11c ⟨rfl, hb⟩; (with_reducible first | (have kbc : Below x11b.heap.size x11b x11c := below_plain hb) | (have kbc : Below x11b.heap.size x11b x11c := below_made hb)); have ssc := kbc.size; (first | (have HZ := Lib.hid (show HasO x11c w10.heap.size (.cells #[.int .i64 0, .slice none 0 0, .slice none 0 0, .slice none 0 0, .bool false] 89 (0, 0)) from HZ.out.below kbc)) | (have HZ := Lib.hid (HZ.out.below kbc)) | (have HZ := Lib.hid (show HasO x11c x11b.heap.size (.cells #[.int .i64 0, .slice none 0 0, .slice none 0 0, .slice none 0 0, .bool false] 89 (0, 0)) from HasO.below (HasO.newR rfl) hb)) | skip); have Q4 := Lib.hid (Q3.out.below kbc); (try (have zc0 := HasO.cell (i := 0) HZ.out rfl; have zf0 := HasO.frozen (i := 0) HZ.out; have zc1 := HasO.cell (i := 1) HZ.out rfl; have zf1 := HasO.frozen (i := 1) HZ.out; have zc2 := HasO.cell (i := 2) HZ.out rfl; have zf2 := HasO.frozen (i := 2) HZ.out; have zc3 := HasO.cell (i := 3) HZ.out rfl; have zf3 := HasO.frozen (i := 3) HZ.out; have zc4 := HasO.cell (i := 4) HZ.out rfl; have zf4 := HasO.frozen (i := 4) HZ.out)); clear hb; skip))
            all_goals
              rename_i hHeld
              clear hHeld
              go_wp2_with fail
              go_meet
              have kE : Below w10.heap.size w10 x11c := ((kba.trans (kbb.mono (by omega))).trans (kbc.mono (by omega)))
              (first | (have hbx := boxOld 0 none none none 0 0 0 0 0 0 false kE HZ.out (by omega); exact ⟨_, rfl, rfl, hbx.bel⟩) | (have hbx := boxFold 0 none none none 0 0 0 0 0 0 false kE; exact ⟨_, rfl, rfl, hbx.bel⟩) | (have hbx := boxNew 0 none none none 0 0 0 0 0 0 false kE; exact ⟨_, rfl, rfl, hbx.bel⟩))
          case rest =>
            obtain ⟨w11, hwc⟩ : ∃ z, z = wc := ⟨_, rfl⟩
            subst hwc
            obtain ⟨V3, rfl, rfl, kc⟩ := hcut
            have S11 := kc.size
            have HB_11 := Lib.hid (HB_10.out.below kc)
            have sea_11 := Lib.hid (sea_10.out.below kc)
            have push_11 := Lib.hid (push_10.out.below kc)
            have bx_11 := Lib.hid (bx_10.out.below kc)
            have r1_11 := Lib.hid (r1_10.out.below kc)
            have r2_11 := Lib.hid (r2_10.out.below kc)
            have by_11 := Lib.hid (by_10.out.below kc)
            have s0_11 := Lib.hid (s0_10.out.below kc)
            have s1_11 := Lib.hid (s1_10.out.below kc)
            have BB11 := Lib.hid (BB10.out.trans (kc.mono BB10.out.size))
            clear kc HB_10 sea_10 push_10 bx_10 r1_10 r2_10 by_10 s0_10 s1_10 BB10
            clear HBY
            clear sea_11
            clear HB_11
            have q11push0 := HasO.cell (i := 0) push_11.out rfl
            have q11push1 := HasO.cell (i := 1) push_11.out rfl
            have q11push2 := HasO.cell (i := 2) push_11.out rfl
            have q11push3 := HasO.cell (i := 3) push_11.out rfl
            have q11bx0 := HasO.cell (i := 0) bx_11.out rfl
            have q11bx1 := HasO.cell (i := 1) bx_11.out rfl
            have q11bx2 := HasO.cell (i := 2) bx_11.out rfl
            have q11bx3 := HasO.cell (i := 3) bx_11.out rfl
            have q11bx4 := HasO.cell (i := 4) bx_11.out rfl
            go_wp2_with fail
            refine ((same_gr _ (.slice (some ⟨w11.heap.size, 0, none⟩) 2 2) [(0, 4, 5), (1, 4, 5)] _ (r2_11.out.alloc _) (Lst_lit encR_len w11 w11.heap.size 2 rfl #[.int .i64 0, .int .i64 4, .int .i64 5, .int .i64 1, .int .i64 4, .int .i64 5] [(0, 4, 5), (1, 4, 5)] 72 rfl rfl (by unfold maxLen; omega)))).mono ?_
            rintro e w12 ⟨rfl, hb12⟩
            have k12 : Below w11.heap.size w11 w12 := ((Below.refl w11.heap.size w11).alloc (Nat.le_refl _) _).trans (hb12.mono (by simp))
            clear hb12
            have S12 := k12.size
            have push_12 := Lib.hid (push_11.out.below k12)
            have bx_12 := Lib.hid (bx_11.out.below k12)
            have r1_12 := Lib.hid (r1_11.out.below k12)
            have r2_12 := Lib.hid (r2_11.out.below k12)
            have by_12 := Lib.hid (by_11.out.below k12)
            have s0_12 := Lib.hid (s0_11.out.below k12)
            have s1_12 := Lib.hid (s1_11.out.below k12)
            have BB12 := Lib.hid (BB11.out.trans (k12.mono BB11.out.size))
            clear k12 push_11 bx_11 r1_11 r2_11 by_11 s0_11 s1_11 BB11
            clear q11push0 q11push1 q11push2 q11push3 q11bx0 q11bx1 q11bx2 q11bx3 q11bx4
            clear bx_12
            clear r1_12
            clear r2_12
            clear push_12
            have q12by0 := HasO.cell (i := 0) by_12.out rfl
            have q12by1 := HasO.cell (i := 1) by_12.out rfl
            have q12by2 := HasO.cell (i := 2) by_12.out rfl
            have q12by3 := HasO.cell (i := 3) by_12.out rfl
            have q12by4 := HasO.cell (i := 4) by_12.out rfl
            go_wp2_with fail
            refine ((same_gr _ (.slice (some ⟨w12.heap.size, 0, none⟩) 2 2) [(1, 1, 2), (2, 1, 2)] _ (s0_12.out.alloc _) (Lst_lit encR_len w12 w12.heap.size 2 rfl #[.int .i64 1, .int .i64 1, .int .i64 2, .int .i64 2, .int .i64 1, .int .i64 2] [(1, 1, 2), (2, 1, 2)] 72 rfl rfl (by unfold maxLen; omega)))).mono ?_
            rintro e w13 ⟨rfl, hb13⟩
            have k13 : Below w12.heap.size w12 w13 := ((Below.refl w12.heap.size w12).alloc (Nat.le_refl _) _).trans (hb13.mono (by simp))
            clear hb13
            have S13 := k13.size
            have by_13 := Lib.hid (by_12.out.below k13)
            have s0_13 := Lib.hid (s0_12.out.below k13)
            have s1_13 := Lib.hid (s1_12.out.below k13)
            have BB13 := Lib.hid (BB12.out.trans (k13.mono BB12.out.size))
            clear k13 by_12 s0_12 s1_12 BB12
            clear q12by0 q12by1 q12by2 q12by3 q12by4
            have q13by0 := HasO.cell (i := 0) by_13.out rfl
            have q13by1 := HasO.cell (i := 1) by_13.out rfl
            have q13by2 := HasO.cell (i := 2) by_13.out rfl
            have q13by3 := HasO.cell (i := 3) by_13.out rfl
            have q13by4 := HasO.cell (i := 4) by_13.out rfl
            go_wp2_with fail
            refine (alive_dn _).mono ?_
            rintro e w14 ⟨rfl, hb14⟩
            have k14 : Below w13.heap.size w13 w14 := hb14
            clear hb14
            have S14 := k14.size
            have by_14 := Lib.hid (by_13.out.below k14)
            have s0_14 := Lib.hid (s0_13.out.below k14)
            have s1_14 := Lib.hid (s1_13.out.below k14)
            have BB14 := Lib.hid (BB13.out.trans (k14.mono BB13.out.size))
            clear k14 by_13 s0_13 s1_13 BB13
            clear q13by0 q13by1 q13by2 q13by3 q13by4
            go_wp2_with fail
            go_ret
            exact ⟨rfl, BB14.out⟩
end Go.Proofs.Ytnbdnnbeiohmgaa
