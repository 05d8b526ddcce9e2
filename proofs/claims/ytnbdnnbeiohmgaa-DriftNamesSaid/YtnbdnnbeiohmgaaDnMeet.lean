/- drift: Meet of two patches of the bay that have nothing in common. -/
import Derived.Test.YtnbdnnbeiohmgaaDnEach
import Derived.Test.YtnbdnnbeiohmgaaDnH
import Derived.Deep.RegionHeld3
namespace Go.Proofs.Ytnbdnnbeiohmgaa
open Go.RowKit Go.Shelf Go.Lib
attribute [local go_sem] Oper.semAt_some

theorem afl_a : Afloat [(1, 1, 2)] := ⟨by decide +kernel, by decide +kernel, by decide +kernel, by decide +kernel⟩
theorem afl_b : Afloat [(1, 3, 4)] := ⟨by decide +kernel, by decide +kernel, by decide +kernel, by decide +kernel⟩
theorem afl_c : Afloat [(2, 2, 3)] := ⟨by decide +kernel, by decide +kernel, by decide +kernel, by decide +kernel⟩
theorem afl_n : Afloat [] := ⟨by decide +kernel, by decide +kernel, by decide +kernel, by decide +kernel⟩
/-- two regions of the bay that have nothing in common -/
structure Apart2 (a b : List R3) : Prop where
  ok : checkRs 5 5 100 landB [a, b] = true
  one : ∀ y, y < 256 → (bothF 5 5 (a.length + b.length) a b (fun _ => []) y).length ≤ 1
  none : rowsR (bothF 5 5 (a.length + b.length) a b fun _ => []) 256 = []
theorem apart_a : Apart2 [(1, 1, 2)] [] := ⟨by decide +kernel, by decide +kernel, by decide +kernel⟩
theorem apart_b : Apart2 [] [(1, 1, 2)] := ⟨by decide +kernel, by decide +kernel, by decide +kernel⟩
theorem apart_n : Apart2 [] [] := ⟨by decide +kernel, by decide +kernel, by decide +kernel⟩

set_option maxRecDepth 100000 in
set_option maxHeartbeats 16000000 in
theorem pair1_0 (L A0 A1 A2 B0 B1 B2 : Option Addr) (lc n0 n1 n2 c0 c1 c2 m0 m1 m2 d0 d1 d2 : Nat) (ta tb : Int) (oa ob : Bool) (a b : List R3) (D E X Y : Nat) (w : World) (hL : Runs w (.slice L 5 lc) landB) (ha : Runs w (.slice A0 n0 c0) a) (hb : Runs w (.slice B0 m0 d0) b) (hab : Apart2 a b)
    (zD : D < w.heap.size) (zE : E < w.heap.size) (zX : X < w.heap.size) (zY : Y < w.heap.size) (Dc0 : w.cell? ⟨D, 0, none⟩ = some (.func (.func 22) #[] #[]))
    (Ec0 : w.cell? ⟨E, 0, none⟩ = some (.int .i64 5)) (Ec1 : w.cell? ⟨E, 1, none⟩ = some (.int .i64 5)) (Ec2 : w.cell? ⟨E, 2, none⟩ = some (.int .i64 100)) (Ec3 : w.cell? ⟨E, 3, none⟩ = some (.slice L 5 lc))
    (Xc0 : w.cell? ⟨X, 0, none⟩ = some (.int .i64 ta)) (Xc1 : w.cell? ⟨X, 1, none⟩ = some (.slice A0 n0 c0)) (Xc2 : w.cell? ⟨X, 2, none⟩ = some (.slice A1 n1 c1)) (Xc3 : w.cell? ⟨X, 3, none⟩ = some (.slice A2 n2 c2)) (Xc4 : w.cell? ⟨X, 4, none⟩ = some (.bool oa))
    (Yc0 : w.cell? ⟨Y, 0, none⟩ = some (.int .i64 tb)) (Yc1 : w.cell? ⟨Y, 1, none⟩ = some (.slice B0 m0 d0)) (Yc2 : w.cell? ⟨Y, 2, none⟩ = some (.slice B1 m1 d1)) (Yc3 : w.cell? ⟨Y, 3, none⟩ = some (.slice B2 m2 d2)) (Yc4 : w.cell? ⟨Y, 4, none⟩ = some (.bool ob)) :
    Calls Try.prog 151 #[.int .i64 0, .pointer (some ⟨D, 0, none⟩), .pointer (some ⟨E, 0, none⟩), .pointer (some ⟨X, 0, none⟩), .pointer (some ⟨Y, 0, none⟩)] w fun e w' => (∃ A n c, e = .returned (.tuple #[.slice A n c, .int .i64 0]) ∧ Runs w' (.slice A n c) []) ∧ Below w.heap.size w w' := by
  have BB0 := Lib.hid (Below.refl w.heap.size w)
  have HL := Lib.hid hL
  have HA := Lib.hid ha
  have HB := Lib.hid hb
  have HAB := Lib.hid hab
  clear hL ha hb hab
  have hi := fun W => index_reg0 A0 A1 A2 n0 n1 n2 c0 c1 c2 W
  have hj := fun W => index_reg0 B0 B1 B2 m0 m1 m2 d0 d1 d2 W

  have HOa := Lib.hid (of_dn ta oa A0 A1 A2 n0 n1 n2 c0 c1 c2)
  have HOb := Lib.hid (of_dn tb ob B0 B1 B2 m0 m1 m2 d0 d1 d2)
  go_enter Try.func151, Try.ntmps151
  go_upto_region 1 with fail
  have yb1_0 : D < w.heap.size := by omega
  have yb1_1 : E < w.heap.size := by omega
  have yb1_2 : X < w.heap.size := by omega
  have yb1_3 : Y < w.heap.size := by omega
  have Q1 := Lib.hid (show Holds w [(D, 0, .func (.func 22) #[] #[]), (E, 0, .int .i64 5), (E, 1, .int .i64 5), (E, 2, .int .i64 100), (E, 3, .slice L 5 lc), (X, 0, .int .i64 ta), (X, 1, .slice A0 n0 c0), (X, 2, .slice A1 n1 c1), (X, 3, .slice A2 n2 c2), (X, 4, .bool oa), (Y, 0, .int .i64 tb), (Y, 1, .slice B0 m0 d0), (Y, 2, .slice B1 m1 d1), (Y, 3, .slice B2 m2 d2), (Y, 4, .bool ob)] from (.cons yb1_0 Dc0 (.cons yb1_1 Ec0 (.cons yb1_1 Ec1 (.cons yb1_1 Ec2 (.cons yb1_1 Ec3 (.cons yb1_2 Xc0 (.cons yb1_2 Xc1 (.cons yb1_2 Xc2 (.cons yb1_2 Xc3 (.cons yb1_2 Xc4 (.cons yb1_3 Yc0 (.cons yb1_3 Yc1 (.cons yb1_3 Yc2 (.cons yb1_3 Yc3 (.cons yb1_3 Yc4 (.nil _)))))))))))))))))
  clear yb1_0 yb1_1 yb1_2 yb1_3
  go_region_held3 (fun W' => W'.cell? ⟨D, 0, none⟩ = some (.func (.func 22) #[] #[]) ∧ W'.cell? ⟨E, 0, none⟩ = some (.int .i64 5) ∧ W'.cell? ⟨E, 1, none⟩ = some (.int .i64 5) ∧ W'.cell? ⟨E, 2, none⟩ = some (.int .i64 100) ∧ W'.cell? ⟨E, 3, none⟩ = some (.slice L 5 lc) ∧ W'.cell? ⟨X, 0, none⟩ = some (.int .i64 ta) ∧ W'.cell? ⟨X, 1, none⟩ = some (.slice A0 n0 c0) ∧ W'.cell? ⟨X, 2, none⟩ = some (.slice A1 n1 c1) ∧ W'.cell? ⟨X, 3, none⟩ = some (.slice A2 n2 c2) ∧ W'.cell? ⟨X, 4, none⟩ = some (.bool oa) ∧ W'.cell? ⟨Y, 0, none⟩ = some (.int .i64 tb) ∧ W'.cell? ⟨Y, 1, none⟩ = some (.slice B0 m0 d0) ∧ W'.cell? ⟨Y, 2, none⟩ = some (.slice B1 m1 d1) ∧ W'.cell? ⟨Y, 3, none⟩ = some (.slice B2 m2 d2) ∧ W'.cell? ⟨Y, 4, none⟩ = some (.bool ob))
    (first | with_reducible exact holds15 Q1.out | with_reducible exact holds15 (.drew Q1.out) | with_reducible exact holds15 (.drew (Q1.out.alloc _)) | with_reducible exact holds15 (.drew ((Q1.out.alloc _).alloc _)) | with_reducible exact holds15 Q1a.out | with_reducible exact holds15 Q1b.out | with_reducible exact holds15 Q1c.out | fail)
    (first | (go_at_call 138; (with_reducible refine (HOa.out _).mono ?_); rintro e w1a ⟨rfl, hb1a⟩; with_reducible (first | (have kb1a : Below w.heap.size w w1a := below_plain hb1a) | (have kb1a : Below w.heap.size w w1a := below_of_drew hb1a)); have Q1a := Lib.hid (Q1.out.below kb1a); have HL := Lib.hid (HL.out.below kb1a); have HA := Lib.hid (HA.out.below kb1a); have HB := Lib.hid (HB.out.below kb1a); have kb1aH := Lib.hid kb1a; clear kb1a hb1a; skip) | (go_at_call 138; (with_reducible refine (HOb.out _).mono ?_); rintro e w1b ⟨rfl, hb1b⟩; with_reducible (first | (have kb1b : Below w1a.heap.size w1a w1b := below_plain hb1b) | (have kb1b : Below w1a.heap.size w1a w1b := below_of_drew hb1b)); have Q1b := Lib.hid (Q1a.out.below kb1b); have HL := Lib.hid (HL.out.below kb1b); have HA := Lib.hid (HA.out.below kb1b); have HB := Lib.hid (HB.out.below kb1b); have HBC := Lib.hid (both_c L A0 B0 lc n0 m0 c0 d0 a b [] w1b HL.out HA.out HB.out HAB.out.ok HAB.out.one HAB.out.none (by decide)); have kb1bH := Lib.hid kb1b; clear kb1b hb1b; skip) | (go_at_call 22; (with_reducible refine (HBC.out).mono ?_); rintro e w1c ⟨⟨C, cc, rfl, hv⟩, hb1c⟩; with_reducible (first | (have kb1c : Below w1b.heap.size w1b w1c := below_plain hb1c) | (have kb1c : Below w1b.heap.size w1b w1c := below_of_drew hb1c)); have Q1c := Lib.hid (Q1b.out.below kb1c); have kb1cH := Lib.hid kb1c; clear kb1c hb1c; skip))
  all_goals
    rename_i hHeld
    clear hHeld
    have ss1a := kb1aH.out.size
    have ss1b := kb1bH.out.size
    have ss1c := kb1cH.out.size
    have k1 : Below w.heap.size w w1c := ((kb1aH.out.trans (kb1bH.out.mono (by omega))).trans (kb1cH.out.mono (by omega)))
    clear kb1aH kb1bH kb1cH Q1 Q1a Q1b Q1c
    have S1 := k1.size
    have D_1c0 := (k1.cell (p := ⟨D, 0, none⟩) (by show D < _; omega)).trans Dc0
    have E_1c0 := (k1.cell (p := ⟨E, 0, none⟩) (by show E < _; omega)).trans Ec0
    have E_1c1 := (k1.cell (p := ⟨E, 1, none⟩) (by show E < _; omega)).trans Ec1
    have E_1c2 := (k1.cell (p := ⟨E, 2, none⟩) (by show E < _; omega)).trans Ec2
    have E_1c3 := (k1.cell (p := ⟨E, 3, none⟩) (by show E < _; omega)).trans Ec3
    have X_1c0 := (k1.cell (p := ⟨X, 0, none⟩) (by show X < _; omega)).trans Xc0
    have X_1c1 := (k1.cell (p := ⟨X, 1, none⟩) (by show X < _; omega)).trans Xc1
    have X_1c2 := (k1.cell (p := ⟨X, 2, none⟩) (by show X < _; omega)).trans Xc2
    have X_1c3 := (k1.cell (p := ⟨X, 3, none⟩) (by show X < _; omega)).trans Xc3
    have X_1c4 := (k1.cell (p := ⟨X, 4, none⟩) (by show X < _; omega)).trans Xc4
    have Y_1c0 := (k1.cell (p := ⟨Y, 0, none⟩) (by show Y < _; omega)).trans Yc0
    have Y_1c1 := (k1.cell (p := ⟨Y, 1, none⟩) (by show Y < _; omega)).trans Yc1
    have Y_1c2 := (k1.cell (p := ⟨Y, 2, none⟩) (by show Y < _; omega)).trans Yc2
    have Y_1c3 := (k1.cell (p := ⟨Y, 3, none⟩) (by show Y < _; omega)).trans Yc3
    have Y_1c4 := (k1.cell (p := ⟨Y, 4, none⟩) (by show Y < _; omega)).trans Yc4
    have BB1 := Lib.hid (BB0.out.trans (k1.mono BB0.out.size))
    clear k1 Dc0 Ec0 Ec1 Ec2 Ec3 Xc0 Xc1 Xc2 Xc3 Xc4 Yc0 Yc1 Yc2 Yc3 Yc4 BB0
    have HV := Lib.hid hv
    clear hv
    clear D_1c0
    clear E_1c0 E_1c1 E_1c2 E_1c3
    clear X_1c0 X_1c1 X_1c2 X_1c3 X_1c4
    clear Y_1c0 Y_1c1 Y_1c2 Y_1c3 Y_1c4
    go_wp2_with fail
    exact bodyPost_ret (v := .tuple #[.slice C 0 cc, .int .i64 0]) (by simp [results, Try.results151, go_sem]) rfl ⟨⟨C, 0, cc, rfl, HV.out⟩, BB1.out⟩

set_option maxRecDepth 100000 in
set_option maxHeartbeats 16000000 in
theorem pair1_1 (L A0 A1 A2 B0 B1 B2 : Option Addr) (lc n0 n1 n2 c0 c1 c2 m0 m1 m2 d0 d1 d2 : Nat) (ta tb : Int) (oa ob : Bool) (a b : List R3) (D E X Y : Nat) (w : World) (hL : Runs w (.slice L 5 lc) landB) (ha : Runs w (.slice A1 n1 c1) a) (hb : Runs w (.slice B1 m1 d1) b) (hab : Apart2 a b)
    (zD : D < w.heap.size) (zE : E < w.heap.size) (zX : X < w.heap.size) (zY : Y < w.heap.size) (Dc0 : w.cell? ⟨D, 0, none⟩ = some (.func (.func 22) #[] #[]))
    (Ec0 : w.cell? ⟨E, 0, none⟩ = some (.int .i64 5)) (Ec1 : w.cell? ⟨E, 1, none⟩ = some (.int .i64 5)) (Ec2 : w.cell? ⟨E, 2, none⟩ = some (.int .i64 100)) (Ec3 : w.cell? ⟨E, 3, none⟩ = some (.slice L 5 lc))
    (Xc0 : w.cell? ⟨X, 0, none⟩ = some (.int .i64 ta)) (Xc1 : w.cell? ⟨X, 1, none⟩ = some (.slice A0 n0 c0)) (Xc2 : w.cell? ⟨X, 2, none⟩ = some (.slice A1 n1 c1)) (Xc3 : w.cell? ⟨X, 3, none⟩ = some (.slice A2 n2 c2)) (Xc4 : w.cell? ⟨X, 4, none⟩ = some (.bool oa))
    (Yc0 : w.cell? ⟨Y, 0, none⟩ = some (.int .i64 tb)) (Yc1 : w.cell? ⟨Y, 1, none⟩ = some (.slice B0 m0 d0)) (Yc2 : w.cell? ⟨Y, 2, none⟩ = some (.slice B1 m1 d1)) (Yc3 : w.cell? ⟨Y, 3, none⟩ = some (.slice B2 m2 d2)) (Yc4 : w.cell? ⟨Y, 4, none⟩ = some (.bool ob)) :
    Calls Try.prog 151 #[.int .i64 1, .pointer (some ⟨D, 0, none⟩), .pointer (some ⟨E, 0, none⟩), .pointer (some ⟨X, 0, none⟩), .pointer (some ⟨Y, 0, none⟩)] w fun e w' => (∃ A n c, e = .returned (.tuple #[.slice A n c, .int .i64 0]) ∧ Runs w' (.slice A n c) []) ∧ Below w.heap.size w w' := by
  have BB0 := Lib.hid (Below.refl w.heap.size w)
  have HL := Lib.hid hL
  have HA := Lib.hid ha
  have HB := Lib.hid hb
  have HAB := Lib.hid hab
  clear hL ha hb hab
  have hi := fun W => index_reg1 A0 A1 A2 n0 n1 n2 c0 c1 c2 W
  have hj := fun W => index_reg1 B0 B1 B2 m0 m1 m2 d0 d1 d2 W

  have HOa := Lib.hid (of_dn ta oa A0 A1 A2 n0 n1 n2 c0 c1 c2)
  have HOb := Lib.hid (of_dn tb ob B0 B1 B2 m0 m1 m2 d0 d1 d2)
  go_enter Try.func151, Try.ntmps151
  go_upto_region 1 with fail
  have yb1_0 : D < w.heap.size := by omega
  have yb1_1 : E < w.heap.size := by omega
  have yb1_2 : X < w.heap.size := by omega
  have yb1_3 : Y < w.heap.size := by omega
  have Q1 := Lib.hid (show Holds w [(D, 0, .func (.func 22) #[] #[]), (E, 0, .int .i64 5), (E, 1, .int .i64 5), (E, 2, .int .i64 100), (E, 3, .slice L 5 lc), (X, 0, .int .i64 ta), (X, 1, .slice A0 n0 c0), (X, 2, .slice A1 n1 c1), (X, 3, .slice A2 n2 c2), (X, 4, .bool oa), (Y, 0, .int .i64 tb), (Y, 1, .slice B0 m0 d0), (Y, 2, .slice B1 m1 d1), (Y, 3, .slice B2 m2 d2), (Y, 4, .bool ob)] from (.cons yb1_0 Dc0 (.cons yb1_1 Ec0 (.cons yb1_1 Ec1 (.cons yb1_1 Ec2 (.cons yb1_1 Ec3 (.cons yb1_2 Xc0 (.cons yb1_2 Xc1 (.cons yb1_2 Xc2 (.cons yb1_2 Xc3 (.cons yb1_2 Xc4 (.cons yb1_3 Yc0 (.cons yb1_3 Yc1 (.cons yb1_3 Yc2 (.cons yb1_3 Yc3 (.cons yb1_3 Yc4 (.nil _)))))))))))))))))
  clear yb1_0 yb1_1 yb1_2 yb1_3
  go_region_held3 (fun W' => W'.cell? ⟨D, 0, none⟩ = some (.func (.func 22) #[] #[]) ∧ W'.cell? ⟨E, 0, none⟩ = some (.int .i64 5) ∧ W'.cell? ⟨E, 1, none⟩ = some (.int .i64 5) ∧ W'.cell? ⟨E, 2, none⟩ = some (.int .i64 100) ∧ W'.cell? ⟨E, 3, none⟩ = some (.slice L 5 lc) ∧ W'.cell? ⟨X, 0, none⟩ = some (.int .i64 ta) ∧ W'.cell? ⟨X, 1, none⟩ = some (.slice A0 n0 c0) ∧ W'.cell? ⟨X, 2, none⟩ = some (.slice A1 n1 c1) ∧ W'.cell? ⟨X, 3, none⟩ = some (.slice A2 n2 c2) ∧ W'.cell? ⟨X, 4, none⟩ = some (.bool oa) ∧ W'.cell? ⟨Y, 0, none⟩ = some (.int .i64 tb) ∧ W'.cell? ⟨Y, 1, none⟩ = some (.slice B0 m0 d0) ∧ W'.cell? ⟨Y, 2, none⟩ = some (.slice B1 m1 d1) ∧ W'.cell? ⟨Y, 3, none⟩ = some (.slice B2 m2 d2) ∧ W'.cell? ⟨Y, 4, none⟩ = some (.bool ob))
    (first | with_reducible exact holds15 Q1.out | with_reducible exact holds15 (.drew Q1.out) | with_reducible exact holds15 (.drew (Q1.out.alloc _)) | with_reducible exact holds15 (.drew ((Q1.out.alloc _).alloc _)) | with_reducible exact holds15 Q1a.out | with_reducible exact holds15 Q1b.out | with_reducible exact holds15 Q1c.out | fail)
    (first | (go_at_call 138; (with_reducible refine (HOa.out _).mono ?_); rintro e w1a ⟨rfl, hb1a⟩; with_reducible (first | (have kb1a : Below w.heap.size w w1a := below_plain hb1a) | (have kb1a : Below w.heap.size w w1a := below_of_drew hb1a)); have Q1a := Lib.hid (Q1.out.below kb1a); have HL := Lib.hid (HL.out.below kb1a); have HA := Lib.hid (HA.out.below kb1a); have HB := Lib.hid (HB.out.below kb1a); have kb1aH := Lib.hid kb1a; clear kb1a hb1a; skip) | (go_at_call 138; (with_reducible refine (HOb.out _).mono ?_); rintro e w1b ⟨rfl, hb1b⟩; with_reducible (first | (have kb1b : Below w1a.heap.size w1a w1b := below_plain hb1b) | (have kb1b : Below w1a.heap.size w1a w1b := below_of_drew hb1b)); have Q1b := Lib.hid (Q1a.out.below kb1b); have HL := Lib.hid (HL.out.below kb1b); have HA := Lib.hid (HA.out.below kb1b); have HB := Lib.hid (HB.out.below kb1b); have HBC := Lib.hid (both_c L A1 B1 lc n1 m1 c1 d1 a b [] w1b HL.out HA.out HB.out HAB.out.ok HAB.out.one HAB.out.none (by decide)); have kb1bH := Lib.hid kb1b; clear kb1b hb1b; skip) | (go_at_call 22; (with_reducible refine (HBC.out).mono ?_); rintro e w1c ⟨⟨C, cc, rfl, hv⟩, hb1c⟩; with_reducible (first | (have kb1c : Below w1b.heap.size w1b w1c := below_plain hb1c) | (have kb1c : Below w1b.heap.size w1b w1c := below_of_drew hb1c)); have Q1c := Lib.hid (Q1b.out.below kb1c); have kb1cH := Lib.hid kb1c; clear kb1c hb1c; skip))
  all_goals
    rename_i hHeld
    clear hHeld
    have ss1a := kb1aH.out.size
    have ss1b := kb1bH.out.size
    have ss1c := kb1cH.out.size
    have k1 : Below w.heap.size w w1c := ((kb1aH.out.trans (kb1bH.out.mono (by omega))).trans (kb1cH.out.mono (by omega)))
    clear kb1aH kb1bH kb1cH Q1 Q1a Q1b Q1c
    have S1 := k1.size
    have D_1c0 := (k1.cell (p := ⟨D, 0, none⟩) (by show D < _; omega)).trans Dc0
    have E_1c0 := (k1.cell (p := ⟨E, 0, none⟩) (by show E < _; omega)).trans Ec0
    have E_1c1 := (k1.cell (p := ⟨E, 1, none⟩) (by show E < _; omega)).trans Ec1
    have E_1c2 := (k1.cell (p := ⟨E, 2, none⟩) (by show E < _; omega)).trans Ec2
    have E_1c3 := (k1.cell (p := ⟨E, 3, none⟩) (by show E < _; omega)).trans Ec3
    have X_1c0 := (k1.cell (p := ⟨X, 0, none⟩) (by show X < _; omega)).trans Xc0
    have X_1c1 := (k1.cell (p := ⟨X, 1, none⟩) (by show X < _; omega)).trans Xc1
    have X_1c2 := (k1.cell (p := ⟨X, 2, none⟩) (by show X < _; omega)).trans Xc2
    have X_1c3 := (k1.cell (p := ⟨X, 3, none⟩) (by show X < _; omega)).trans Xc3
    have X_1c4 := (k1.cell (p := ⟨X, 4, none⟩) (by show X < _; omega)).trans Xc4
    have Y_1c0 := (k1.cell (p := ⟨Y, 0, none⟩) (by show Y < _; omega)).trans Yc0
    have Y_1c1 := (k1.cell (p := ⟨Y, 1, none⟩) (by show Y < _; omega)).trans Yc1
    have Y_1c2 := (k1.cell (p := ⟨Y, 2, none⟩) (by show Y < _; omega)).trans Yc2
    have Y_1c3 := (k1.cell (p := ⟨Y, 3, none⟩) (by show Y < _; omega)).trans Yc3
    have Y_1c4 := (k1.cell (p := ⟨Y, 4, none⟩) (by show Y < _; omega)).trans Yc4
    have BB1 := Lib.hid (BB0.out.trans (k1.mono BB0.out.size))
    clear k1 Dc0 Ec0 Ec1 Ec2 Ec3 Xc0 Xc1 Xc2 Xc3 Xc4 Yc0 Yc1 Yc2 Yc3 Yc4 BB0
    have HV := Lib.hid hv
    clear hv
    clear D_1c0
    clear E_1c0 E_1c1 E_1c2 E_1c3
    clear X_1c0 X_1c1 X_1c2 X_1c3 X_1c4
    clear Y_1c0 Y_1c1 Y_1c2 Y_1c3 Y_1c4
    go_wp2_with fail
    exact bodyPost_ret (v := .tuple #[.slice C 0 cc, .int .i64 0]) (by simp [results, Try.results151, go_sem]) rfl ⟨⟨C, 0, cc, rfl, HV.out⟩, BB1.out⟩

set_option maxRecDepth 100000 in
set_option maxHeartbeats 16000000 in
theorem pair1_2 (L A0 A1 A2 B0 B1 B2 : Option Addr) (lc n0 n1 n2 c0 c1 c2 m0 m1 m2 d0 d1 d2 : Nat) (ta tb : Int) (oa ob : Bool) (a b : List R3) (D E X Y : Nat) (w : World) (hL : Runs w (.slice L 5 lc) landB) (ha : Runs w (.slice A2 n2 c2) a) (hb : Runs w (.slice B2 m2 d2) b) (hab : Apart2 a b)
    (zD : D < w.heap.size) (zE : E < w.heap.size) (zX : X < w.heap.size) (zY : Y < w.heap.size) (Dc0 : w.cell? ⟨D, 0, none⟩ = some (.func (.func 22) #[] #[]))
    (Ec0 : w.cell? ⟨E, 0, none⟩ = some (.int .i64 5)) (Ec1 : w.cell? ⟨E, 1, none⟩ = some (.int .i64 5)) (Ec2 : w.cell? ⟨E, 2, none⟩ = some (.int .i64 100)) (Ec3 : w.cell? ⟨E, 3, none⟩ = some (.slice L 5 lc))
    (Xc0 : w.cell? ⟨X, 0, none⟩ = some (.int .i64 ta)) (Xc1 : w.cell? ⟨X, 1, none⟩ = some (.slice A0 n0 c0)) (Xc2 : w.cell? ⟨X, 2, none⟩ = some (.slice A1 n1 c1)) (Xc3 : w.cell? ⟨X, 3, none⟩ = some (.slice A2 n2 c2)) (Xc4 : w.cell? ⟨X, 4, none⟩ = some (.bool oa))
    (Yc0 : w.cell? ⟨Y, 0, none⟩ = some (.int .i64 tb)) (Yc1 : w.cell? ⟨Y, 1, none⟩ = some (.slice B0 m0 d0)) (Yc2 : w.cell? ⟨Y, 2, none⟩ = some (.slice B1 m1 d1)) (Yc3 : w.cell? ⟨Y, 3, none⟩ = some (.slice B2 m2 d2)) (Yc4 : w.cell? ⟨Y, 4, none⟩ = some (.bool ob)) :
    Calls Try.prog 151 #[.int .i64 2, .pointer (some ⟨D, 0, none⟩), .pointer (some ⟨E, 0, none⟩), .pointer (some ⟨X, 0, none⟩), .pointer (some ⟨Y, 0, none⟩)] w fun e w' => (∃ A n c, e = .returned (.tuple #[.slice A n c, .int .i64 0]) ∧ Runs w' (.slice A n c) []) ∧ Below w.heap.size w w' := by
  have BB0 := Lib.hid (Below.refl w.heap.size w)
  have HL := Lib.hid hL
  have HA := Lib.hid ha
  have HB := Lib.hid hb
  have HAB := Lib.hid hab
  clear hL ha hb hab
  have hi := fun W => index_reg2 A0 A1 A2 n0 n1 n2 c0 c1 c2 W
  have hj := fun W => index_reg2 B0 B1 B2 m0 m1 m2 d0 d1 d2 W

  have HOa := Lib.hid (of_dn ta oa A0 A1 A2 n0 n1 n2 c0 c1 c2)
  have HOb := Lib.hid (of_dn tb ob B0 B1 B2 m0 m1 m2 d0 d1 d2)
  go_enter Try.func151, Try.ntmps151
  go_upto_region 1 with fail
  have yb1_0 : D < w.heap.size := by omega
  have yb1_1 : E < w.heap.size := by omega
  have yb1_2 : X < w.heap.size := by omega
  have yb1_3 : Y < w.heap.size := by omega
  have Q1 := Lib.hid (show Holds w [(D, 0, .func (.func 22) #[] #[]), (E, 0, .int .i64 5), (E, 1, .int .i64 5), (E, 2, .int .i64 100), (E, 3, .slice L 5 lc), (X, 0, .int .i64 ta), (X, 1, .slice A0 n0 c0), (X, 2, .slice A1 n1 c1), (X, 3, .slice A2 n2 c2), (X, 4, .bool oa), (Y, 0, .int .i64 tb), (Y, 1, .slice B0 m0 d0), (Y, 2, .slice B1 m1 d1), (Y, 3, .slice B2 m2 d2), (Y, 4, .bool ob)] from (.cons yb1_0 Dc0 (.cons yb1_1 Ec0 (.cons yb1_1 Ec1 (.cons yb1_1 Ec2 (.cons yb1_1 Ec3 (.cons yb1_2 Xc0 (.cons yb1_2 Xc1 (.cons yb1_2 Xc2 (.cons yb1_2 Xc3 (.cons yb1_2 Xc4 (.cons yb1_3 Yc0 (.cons yb1_3 Yc1 (.cons yb1_3 Yc2 (.cons yb1_3 Yc3 (.cons yb1_3 Yc4 (.nil _)))))))))))))))))
  clear yb1_0 yb1_1 yb1_2 yb1_3
  go_region_held3 (fun W' => W'.cell? ⟨D, 0, none⟩ = some (.func (.func 22) #[] #[]) ∧ W'.cell? ⟨E, 0, none⟩ = some (.int .i64 5) ∧ W'.cell? ⟨E, 1, none⟩ = some (.int .i64 5) ∧ W'.cell? ⟨E, 2, none⟩ = some (.int .i64 100) ∧ W'.cell? ⟨E, 3, none⟩ = some (.slice L 5 lc) ∧ W'.cell? ⟨X, 0, none⟩ = some (.int .i64 ta) ∧ W'.cell? ⟨X, 1, none⟩ = some (.slice A0 n0 c0) ∧ W'.cell? ⟨X, 2, none⟩ = some (.slice A1 n1 c1) ∧ W'.cell? ⟨X, 3, none⟩ = some (.slice A2 n2 c2) ∧ W'.cell? ⟨X, 4, none⟩ = some (.bool oa) ∧ W'.cell? ⟨Y, 0, none⟩ = some (.int .i64 tb) ∧ W'.cell? ⟨Y, 1, none⟩ = some (.slice B0 m0 d0) ∧ W'.cell? ⟨Y, 2, none⟩ = some (.slice B1 m1 d1) ∧ W'.cell? ⟨Y, 3, none⟩ = some (.slice B2 m2 d2) ∧ W'.cell? ⟨Y, 4, none⟩ = some (.bool ob))
    (first | with_reducible exact holds15 Q1.out | with_reducible exact holds15 (.drew Q1.out) | with_reducible exact holds15 (.drew (Q1.out.alloc _)) | with_reducible exact holds15 (.drew ((Q1.out.alloc _).alloc _)) | with_reducible exact holds15 Q1a.out | with_reducible exact holds15 Q1b.out | with_reducible exact holds15 Q1c.out | fail)
    (first | (go_at_call 138; (with_reducible refine (HOa.out _).mono ?_); rintro e w1a ⟨rfl, hb1a⟩; with_reducible (first | (have kb1a : Below w.heap.size w w1a := below_plain hb1a) | (have kb1a : Below w.heap.size w w1a := below_of_drew hb1a)); have Q1a := Lib.hid (Q1.out.below kb1a); have HL := Lib.hid (HL.out.below kb1a); have HA := Lib.hid (HA.out.below kb1a); have HB := Lib.hid (HB.out.below kb1a); have kb1aH := Lib.hid kb1a; clear kb1a hb1a; skip) | (go_at_call 138; (with_reducible refine (HOb.out _).mono ?_); rintro e w1b ⟨rfl, hb1b⟩; with_reducible (first | (have kb1b : Below w1a.heap.size w1a w1b := below_plain hb1b) | (have kb1b : Below w1a.heap.size w1a w1b := below_of_drew hb1b)); have Q1b := Lib.hid (Q1a.out.below kb1b); have HL := Lib.hid (HL.out.below kb1b); have HA := Lib.hid (HA.out.below kb1b); have HB := Lib.hid (HB.out.below kb1b); have HBC := Lib.hid (both_c L A2 B2 lc n2 m2 c2 d2 a b [] w1b HL.out HA.out HB.out HAB.out.ok HAB.out.one HAB.out.none (by decide)); have kb1bH := Lib.hid kb1b; clear kb1b hb1b; skip) | (go_at_call 22; (with_reducible refine (HBC.out).mono ?_); rintro e w1c ⟨⟨C, cc, rfl, hv⟩, hb1c⟩; with_reducible (first | (have kb1c : Below w1b.heap.size w1b w1c := below_plain hb1c) | (have kb1c : Below w1b.heap.size w1b w1c := below_of_drew hb1c)); have Q1c := Lib.hid (Q1b.out.below kb1c); have kb1cH := Lib.hid kb1c; clear kb1c hb1c; skip))
  all_goals
    rename_i hHeld
    clear hHeld
    have ss1a := kb1aH.out.size
    have ss1b := kb1bH.out.size
    have ss1c := kb1cH.out.size
    have k1 : Below w.heap.size w w1c := ((kb1aH.out.trans (kb1bH.out.mono (by omega))).trans (kb1cH.out.mono (by omega)))
    clear kb1aH kb1bH kb1cH Q1 Q1a Q1b Q1c
    have S1 := k1.size
    have D_1c0 := (k1.cell (p := ⟨D, 0, none⟩) (by show D < _; omega)).trans Dc0
    have E_1c0 := (k1.cell (p := ⟨E, 0, none⟩) (by show E < _; omega)).trans Ec0
    have E_1c1 := (k1.cell (p := ⟨E, 1, none⟩) (by show E < _; omega)).trans Ec1
    have E_1c2 := (k1.cell (p := ⟨E, 2, none⟩) (by show E < _; omega)).trans Ec2
    have E_1c3 := (k1.cell (p := ⟨E, 3, none⟩) (by show E < _; omega)).trans Ec3
    have X_1c0 := (k1.cell (p := ⟨X, 0, none⟩) (by show X < _; omega)).trans Xc0
    have X_1c1 := (k1.cell (p := ⟨X, 1, none⟩) (by show X < _; omega)).trans Xc1
    have X_1c2 := (k1.cell (p := ⟨X, 2, none⟩) (by show X < _; omega)).trans Xc2
    have X_1c3 := (k1.cell (p := ⟨X, 3, none⟩) (by show X < _; omega)).trans Xc3
    have X_1c4 := (k1.cell (p := ⟨X, 4, none⟩) (by show X < _; omega)).trans Xc4
    have Y_1c0 := (k1.cell (p := ⟨Y, 0, none⟩) (by show Y < _; omega)).trans Yc0
    have Y_1c1 := (k1.cell (p := ⟨Y, 1, none⟩) (by show Y < _; omega)).trans Yc1
    have Y_1c2 := (k1.cell (p := ⟨Y, 2, none⟩) (by show Y < _; omega)).trans Yc2
    have Y_1c3 := (k1.cell (p := ⟨Y, 3, none⟩) (by show Y < _; omega)).trans Yc3
    have Y_1c4 := (k1.cell (p := ⟨Y, 4, none⟩) (by show Y < _; omega)).trans Yc4
    have BB1 := Lib.hid (BB0.out.trans (k1.mono BB0.out.size))
    clear k1 Dc0 Ec0 Ec1 Ec2 Ec3 Xc0 Xc1 Xc2 Xc3 Xc4 Yc0 Yc1 Yc2 Yc3 Yc4 BB0
    have HV := Lib.hid hv
    clear hv
    clear D_1c0
    clear E_1c0 E_1c1 E_1c2 E_1c3
    clear X_1c0 X_1c1 X_1c2 X_1c3 X_1c4
    clear Y_1c0 Y_1c1 Y_1c2 Y_1c3 Y_1c4
    go_wp2_with fail
    exact bodyPost_ret (v := .tuple #[.slice C 0 cc, .int .i64 0]) (by simp [results, Try.results151, go_sem]) rfl ⟨⟨C, 0, cc, rfl, HV.out⟩, BB1.out⟩

theorem three {P : Nat → Prop} (h0 : P 0) (h1 : P 1) (h2 : P 2) : ∀ k, k < 3 → P k := fun k hk => by
  obtain rfl | rfl | rfl : k = 0 ∨ k = 1 ∨ k = 2 := by omega
  · exact h0
  · exact h1
  · exact h2
set_option maxRecDepth 100000 in
set_option maxHeartbeats 16000000 in
/-- pair of two patches of one time whose regions have nothing in common, with grid.Both -/
theorem pair_dn (L A0 A1 B0 B1 : Option Addr) (lc n0 n1 c0 c1 m0 m1 d0 d1 : Nat) (t : Int) (oa ob off : Bool) (a0 a1 b0 b1 : List R3) (w : World) (hL : Runs w (.slice L 5 lc) landB)
    (ha0 : Runs w (.slice A0 n0 c0) a0) (ha1 : Runs w (.slice A1 n1 c1) a1) (hb0 : Runs w (.slice B0 m0 d0) b0) (hb1 : Runs w (.slice B1 m1 d1) b1) (ht : inB t 0 1073741824 = true) (fa0 : Afloat a0) (fa1 : Afloat a1) (fb0 : Afloat b0) (fb1 : Afloat b1) (p0 : Apart2 a0 b0) (p1 : Apart2 a1 b1) :
    Calls Try.prog 101 #[.agg #[.int .i64 5, .int .i64 5, .int .i64 100, .slice L 5 lc], .agg #[.int .i64 t, .slice A0 n0 c0, .slice A1 n1 c1, .slice none 0 0, .bool oa], .agg #[.int .i64 t, .slice B0 m0 d0, .slice B1 m1 d1, .slice none 0 0, .bool ob], .func (.func 22) #[] #[], .bool off] w fun e w' => (∃ C0 C1 C2 e0 e1 e2, e = .returned (.tuple #[.agg #[.int .i64 t, .slice C0 0 e0, .slice C1 0 e1, .slice C2 0 e2, .bool off], .int .i64 0])) ∧ Below w.heap.size w w' := by
  have BB0 := Lib.hid (Below.refl w.heap.size w)
  have HL_0 := Lib.hid hL
  have HA_0 := Lib.hid ha0
  have HA1_0 := Lib.hid ha1
  have HB_0 := Lib.hid hb0
  have HB1_0 := Lib.hid hb1
  clear hL ha0 ha1 hb0 hb1
  go_enter Try.func101, Try.ntmps101
  go_upto_region 1 with fail
  obtain ⟨Z, hZ⟩ : ∃ Z, w.heap.size = Z := ⟨_, rfl⟩
  obtain ⟨w1, hw1⟩ : ∃ Z, (((((w.alloc (.cells #[.int .i64 5, .int .i64 5, .int .i64 100, .slice L 5 lc] 24)).alloc (.cells #[.int .i64 t, .slice A0 n0 c0, .slice A1 n1 c1, .slice none 0 0, .bool oa] 89)).alloc (.cells #[.int .i64 t, .slice B0 m0 d0, .slice B1 m1 d1, .slice none 0 0, .bool ob] 89)).alloc (.cells #[.func (.func 22) #[] #[]] 231)).alloc (.cells #[.int .i64 0, .slice none 0 0, .slice none 0 0, .slice none 0 0, .bool false] 89)) = Z := ⟨_, rfl⟩
  have k1 : Below w.heap.size w w1 := by rw [← hw1]; exact ((((((Below.refl _ _).alloc (Nat.le_refl _) _).alloc (by simp) _).alloc (by simp; omega) _).alloc (by simp; omega) _).alloc (by simp; omega) _)
  have z1 : Z + 1 + 1 + 1 + 1 < w1.heap.size := by rw [← hw1, ← hZ]; simp
  have y1 : w.heap.size = Z := hZ
  have gb_1c0 : w1.cell? ⟨Z, 0, none⟩ = some (.int .i64 5) := by rw [← hw1, ← hZ]; simp [go_sem]
  have gb_1c1 : w1.cell? ⟨Z, 1, none⟩ = some (.int .i64 5) := by rw [← hw1, ← hZ]; simp [go_sem]
  have gb_1c2 : w1.cell? ⟨Z, 2, none⟩ = some (.int .i64 100) := by rw [← hw1, ← hZ]; simp [go_sem]
  have gb_1c3 : w1.cell? ⟨Z, 3, none⟩ = some (.slice L 5 lc) := by rw [← hw1, ← hZ]; simp [go_sem]
  have pa_1c0 : w1.cell? ⟨Z + 1, 0, none⟩ = some (.int .i64 t) := by rw [← hw1, ← hZ]; simp [go_sem]
  have pa_1c1 : w1.cell? ⟨Z + 1, 1, none⟩ = some (.slice A0 n0 c0) := by rw [← hw1, ← hZ]; simp [go_sem]
  have pa_1c2 : w1.cell? ⟨Z + 1, 2, none⟩ = some (.slice A1 n1 c1) := by rw [← hw1, ← hZ]; simp [go_sem]
  have pa_1c3 : w1.cell? ⟨Z + 1, 3, none⟩ = some (.slice none 0 0) := by rw [← hw1, ← hZ]; simp [go_sem]
  have pa_1c4 : w1.cell? ⟨Z + 1, 4, none⟩ = some (.bool oa) := by rw [← hw1, ← hZ]; simp [go_sem]
  have pb_1c0 : w1.cell? ⟨Z + 1 + 1, 0, none⟩ = some (.int .i64 t) := by rw [← hw1, ← hZ]; simp [go_sem]
  have pb_1c1 : w1.cell? ⟨Z + 1 + 1, 1, none⟩ = some (.slice B0 m0 d0) := by rw [← hw1, ← hZ]; simp [go_sem]
  have pb_1c2 : w1.cell? ⟨Z + 1 + 1, 2, none⟩ = some (.slice B1 m1 d1) := by rw [← hw1, ← hZ]; simp [go_sem]
  have pb_1c3 : w1.cell? ⟨Z + 1 + 1, 3, none⟩ = some (.slice none 0 0) := by rw [← hw1, ← hZ]; simp [go_sem]
  have pb_1c4 : w1.cell? ⟨Z + 1 + 1, 4, none⟩ = some (.bool ob) := by rw [← hw1, ← hZ]; simp [go_sem]
  have fb_1c0 : w1.cell? ⟨Z + 1 + 1 + 1, 0, none⟩ = some (.func (.func 22) #[] #[]) := by rw [← hw1, ← hZ]; simp [go_sem]
  have res_1c0 : w1.cell? ⟨Z + 1 + 1 + 1 + 1, 0, none⟩ = some (.int .i64 0) := by rw [← hw1, ← hZ]; simp [go_sem]
  have res_1c1 : w1.cell? ⟨Z + 1 + 1 + 1 + 1, 1, none⟩ = some (.slice none 0 0) := by rw [← hw1, ← hZ]; simp [go_sem]
  have res_1c2 : w1.cell? ⟨Z + 1 + 1 + 1 + 1, 2, none⟩ = some (.slice none 0 0) := by rw [← hw1, ← hZ]; simp [go_sem]
  have res_1c3 : w1.cell? ⟨Z + 1 + 1 + 1 + 1, 3, none⟩ = some (.slice none 0 0) := by rw [← hw1, ← hZ]; simp [go_sem]
  have res_1c4 : w1.cell? ⟨Z + 1 + 1 + 1 + 1, 4, none⟩ = some (.bool false) := by rw [← hw1, ← hZ]; simp [go_sem]
  have res_1f0 : w1.frozen? ⟨Z + 1 + 1 + 1 + 1, 0, none⟩ = false := by rw [← hw1, ← hZ]; simp [go_sem]
  have res_1f1 : w1.frozen? ⟨Z + 1 + 1 + 1 + 1, 1, none⟩ = false := by rw [← hw1, ← hZ]; simp [go_sem]
  have res_1f2 : w1.frozen? ⟨Z + 1 + 1 + 1 + 1, 2, none⟩ = false := by rw [← hw1, ← hZ]; simp [go_sem]
  have res_1f3 : w1.frozen? ⟨Z + 1 + 1 + 1 + 1, 3, none⟩ = false := by rw [← hw1, ← hZ]; simp [go_sem]
  have res_1f4 : w1.frozen? ⟨Z + 1 + 1 + 1 + 1, 4, none⟩ = false := by rw [← hw1, ← hZ]; simp [go_sem]
  (try rw [hw1]); (try rw [hZ])
  clear hw1 hZ
  have S1 := k1.size
  have HL_1 := Lib.hid (HL_0.out.below k1)
  have HA_1 := Lib.hid (HA_0.out.below k1)
  have HA1_1 := Lib.hid (HA1_0.out.below k1)
  have HB_1 := Lib.hid (HB_0.out.below k1)
  have HB1_1 := Lib.hid (HB1_0.out.below k1)
  have BB1 := Lib.hid (BB0.out.trans (k1.mono BB0.out.size))
  clear k1 HL_0 HA_0 HA1_0 HB_0 HB1_0 BB0
  go_wp2_with fail
  refine (checkPatch_dn t oa L A0 A1 lc n0 n1 c0 c1 a0 a1 _ HL_1.out HA_1.out HA1_1.out ht fa0 fa1).mono ?_
  rintro e w2 ⟨rfl, hb2⟩
  have k2 : Below w1.heap.size w1 w2 := hb2
  clear hb2
  have S2 := k2.size
  have gb_2c0 := (k2.cell (p := ⟨Z, 0, none⟩) (by show Z < _; omega)).trans gb_1c0
  have gb_2c1 := (k2.cell (p := ⟨Z, 1, none⟩) (by show Z < _; omega)).trans gb_1c1
  have gb_2c2 := (k2.cell (p := ⟨Z, 2, none⟩) (by show Z < _; omega)).trans gb_1c2
  have gb_2c3 := (k2.cell (p := ⟨Z, 3, none⟩) (by show Z < _; omega)).trans gb_1c3
  have pa_2c0 := (k2.cell (p := ⟨Z + 1, 0, none⟩) (by show Z + 1 < _; omega)).trans pa_1c0
  have pa_2c1 := (k2.cell (p := ⟨Z + 1, 1, none⟩) (by show Z + 1 < _; omega)).trans pa_1c1
  have pa_2c2 := (k2.cell (p := ⟨Z + 1, 2, none⟩) (by show Z + 1 < _; omega)).trans pa_1c2
  have pa_2c3 := (k2.cell (p := ⟨Z + 1, 3, none⟩) (by show Z + 1 < _; omega)).trans pa_1c3
  have pa_2c4 := (k2.cell (p := ⟨Z + 1, 4, none⟩) (by show Z + 1 < _; omega)).trans pa_1c4
  have pb_2c0 := (k2.cell (p := ⟨Z + 1 + 1, 0, none⟩) (by show Z + 1 + 1 < _; omega)).trans pb_1c0
  have pb_2c1 := (k2.cell (p := ⟨Z + 1 + 1, 1, none⟩) (by show Z + 1 + 1 < _; omega)).trans pb_1c1
  have pb_2c2 := (k2.cell (p := ⟨Z + 1 + 1, 2, none⟩) (by show Z + 1 + 1 < _; omega)).trans pb_1c2
  have pb_2c3 := (k2.cell (p := ⟨Z + 1 + 1, 3, none⟩) (by show Z + 1 + 1 < _; omega)).trans pb_1c3
  have pb_2c4 := (k2.cell (p := ⟨Z + 1 + 1, 4, none⟩) (by show Z + 1 + 1 < _; omega)).trans pb_1c4
  have fb_2c0 := (k2.cell (p := ⟨Z + 1 + 1 + 1, 0, none⟩) (by show Z + 1 + 1 + 1 < _; omega)).trans fb_1c0
  have res_2c0 := (k2.cell (p := ⟨Z + 1 + 1 + 1 + 1, 0, none⟩) (by show Z + 1 + 1 + 1 + 1 < _; omega)).trans res_1c0
  have res_2c1 := (k2.cell (p := ⟨Z + 1 + 1 + 1 + 1, 1, none⟩) (by show Z + 1 + 1 + 1 + 1 < _; omega)).trans res_1c1
  have res_2c2 := (k2.cell (p := ⟨Z + 1 + 1 + 1 + 1, 2, none⟩) (by show Z + 1 + 1 + 1 + 1 < _; omega)).trans res_1c2
  have res_2c3 := (k2.cell (p := ⟨Z + 1 + 1 + 1 + 1, 3, none⟩) (by show Z + 1 + 1 + 1 + 1 < _; omega)).trans res_1c3
  have res_2c4 := (k2.cell (p := ⟨Z + 1 + 1 + 1 + 1, 4, none⟩) (by show Z + 1 + 1 + 1 + 1 < _; omega)).trans res_1c4
  have res_2f0 := (k2.frozen (p := ⟨Z + 1 + 1 + 1 + 1, 0, none⟩) (by show Z + 1 + 1 + 1 + 1 < _; omega)).trans res_1f0
  have res_2f1 := (k2.frozen (p := ⟨Z + 1 + 1 + 1 + 1, 1, none⟩) (by show Z + 1 + 1 + 1 + 1 < _; omega)).trans res_1f1
  have res_2f2 := (k2.frozen (p := ⟨Z + 1 + 1 + 1 + 1, 2, none⟩) (by show Z + 1 + 1 + 1 + 1 < _; omega)).trans res_1f2
  have res_2f3 := (k2.frozen (p := ⟨Z + 1 + 1 + 1 + 1, 3, none⟩) (by show Z + 1 + 1 + 1 + 1 < _; omega)).trans res_1f3
  have res_2f4 := (k2.frozen (p := ⟨Z + 1 + 1 + 1 + 1, 4, none⟩) (by show Z + 1 + 1 + 1 + 1 < _; omega)).trans res_1f4
  have HL_2 := Lib.hid (HL_1.out.below k2)
  have HA_2 := Lib.hid (HA_1.out.below k2)
  have HA1_2 := Lib.hid (HA1_1.out.below k2)
  have HB_2 := Lib.hid (HB_1.out.below k2)
  have HB1_2 := Lib.hid (HB1_1.out.below k2)
  have BB2 := Lib.hid (BB1.out.trans (k2.mono BB1.out.size))
  clear k2 gb_1c0 gb_1c1 gb_1c2 gb_1c3 pa_1c0 pa_1c1 pa_1c2 pa_1c3 pa_1c4 pb_1c0 pb_1c1 pb_1c2 pb_1c3 pb_1c4 fb_1c0 res_1c0 res_1c1 res_1c2 res_1c3 res_1c4 res_1f0 res_1f1 res_1f2 res_1f3 res_1f4 HL_1 HA_1 HA1_1 HB_1 HB1_1 BB1
  go_wp2_with fail
  refine (checkPatch_dn t ob L B0 B1 lc m0 m1 d0 d1 b0 b1 _ HL_2.out HB_2.out HB1_2.out ht fb0 fb1).mono ?_
  rintro e w3 ⟨rfl, hb3⟩
  have k3 : Below w2.heap.size w2 w3 := hb3
  clear hb3
  have S3 := k3.size
  have gb_3c0 := (k3.cell (p := ⟨Z, 0, none⟩) (by show Z < _; omega)).trans gb_2c0
  have gb_3c1 := (k3.cell (p := ⟨Z, 1, none⟩) (by show Z < _; omega)).trans gb_2c1
  have gb_3c2 := (k3.cell (p := ⟨Z, 2, none⟩) (by show Z < _; omega)).trans gb_2c2
  have gb_3c3 := (k3.cell (p := ⟨Z, 3, none⟩) (by show Z < _; omega)).trans gb_2c3
  have pa_3c0 := (k3.cell (p := ⟨Z + 1, 0, none⟩) (by show Z + 1 < _; omega)).trans pa_2c0
  have pa_3c1 := (k3.cell (p := ⟨Z + 1, 1, none⟩) (by show Z + 1 < _; omega)).trans pa_2c1
  have pa_3c2 := (k3.cell (p := ⟨Z + 1, 2, none⟩) (by show Z + 1 < _; omega)).trans pa_2c2
  have pa_3c3 := (k3.cell (p := ⟨Z + 1, 3, none⟩) (by show Z + 1 < _; omega)).trans pa_2c3
  have pa_3c4 := (k3.cell (p := ⟨Z + 1, 4, none⟩) (by show Z + 1 < _; omega)).trans pa_2c4
  have pb_3c0 := (k3.cell (p := ⟨Z + 1 + 1, 0, none⟩) (by show Z + 1 + 1 < _; omega)).trans pb_2c0
  have pb_3c1 := (k3.cell (p := ⟨Z + 1 + 1, 1, none⟩) (by show Z + 1 + 1 < _; omega)).trans pb_2c1
  have pb_3c2 := (k3.cell (p := ⟨Z + 1 + 1, 2, none⟩) (by show Z + 1 + 1 < _; omega)).trans pb_2c2
  have pb_3c3 := (k3.cell (p := ⟨Z + 1 + 1, 3, none⟩) (by show Z + 1 + 1 < _; omega)).trans pb_2c3
  have pb_3c4 := (k3.cell (p := ⟨Z + 1 + 1, 4, none⟩) (by show Z + 1 + 1 < _; omega)).trans pb_2c4
  have fb_3c0 := (k3.cell (p := ⟨Z + 1 + 1 + 1, 0, none⟩) (by show Z + 1 + 1 + 1 < _; omega)).trans fb_2c0
  have res_3c0 := (k3.cell (p := ⟨Z + 1 + 1 + 1 + 1, 0, none⟩) (by show Z + 1 + 1 + 1 + 1 < _; omega)).trans res_2c0
  have res_3c1 := (k3.cell (p := ⟨Z + 1 + 1 + 1 + 1, 1, none⟩) (by show Z + 1 + 1 + 1 + 1 < _; omega)).trans res_2c1
  have res_3c2 := (k3.cell (p := ⟨Z + 1 + 1 + 1 + 1, 2, none⟩) (by show Z + 1 + 1 + 1 + 1 < _; omega)).trans res_2c2
  have res_3c3 := (k3.cell (p := ⟨Z + 1 + 1 + 1 + 1, 3, none⟩) (by show Z + 1 + 1 + 1 + 1 < _; omega)).trans res_2c3
  have res_3c4 := (k3.cell (p := ⟨Z + 1 + 1 + 1 + 1, 4, none⟩) (by show Z + 1 + 1 + 1 + 1 < _; omega)).trans res_2c4
  have res_3f0 := (k3.frozen (p := ⟨Z + 1 + 1 + 1 + 1, 0, none⟩) (by show Z + 1 + 1 + 1 + 1 < _; omega)).trans res_2f0
  have res_3f1 := (k3.frozen (p := ⟨Z + 1 + 1 + 1 + 1, 1, none⟩) (by show Z + 1 + 1 + 1 + 1 < _; omega)).trans res_2f1
  have res_3f2 := (k3.frozen (p := ⟨Z + 1 + 1 + 1 + 1, 2, none⟩) (by show Z + 1 + 1 + 1 + 1 < _; omega)).trans res_2f2
  have res_3f3 := (k3.frozen (p := ⟨Z + 1 + 1 + 1 + 1, 3, none⟩) (by show Z + 1 + 1 + 1 + 1 < _; omega)).trans res_2f3
  have res_3f4 := (k3.frozen (p := ⟨Z + 1 + 1 + 1 + 1, 4, none⟩) (by show Z + 1 + 1 + 1 + 1 < _; omega)).trans res_2f4
  have HL_3 := Lib.hid (HL_2.out.below k3)
  have HA_3 := Lib.hid (HA_2.out.below k3)
  have HA1_3 := Lib.hid (HA1_2.out.below k3)
  have HB_3 := Lib.hid (HB_2.out.below k3)
  have HB1_3 := Lib.hid (HB1_2.out.below k3)
  have BB3 := Lib.hid (BB2.out.trans (k3.mono BB2.out.size))
  clear k3 gb_2c0 gb_2c1 gb_2c2 gb_2c3 pa_2c0 pa_2c1 pa_2c2 pa_2c3 pa_2c4 pb_2c0 pb_2c1 pb_2c2 pb_2c3 pb_2c4 fb_2c0 res_2c0 res_2c1 res_2c2 res_2c3 res_2c4 res_2f0 res_2f1 res_2f2 res_2f3 res_2f4 HL_2 HA_2 HA1_2 HB_2 HB1_2 BB2
  go_upto_region 3 with fail
  have zfb : Z + 1 + 1 + 1 < w3.heap.size := by omega
  have zgb : Z < w3.heap.size := by omega
  have zpa : Z + 1 < w3.heap.size := by omega
  have zpb : Z + 1 + 1 < w3.heap.size := by omega
  have HE := Lib.hid (each_dn 151 #[.pointer (some ⟨Z + 1 + 1 + 1, 0, none⟩), .pointer (some ⟨Z, 0, none⟩), .pointer (some ⟨Z + 1, 0, none⟩), .pointer (some ⟨Z + 1 + 1, 0, none⟩)] (fun _ => []) w3 (enters_of Try.func151 (by kernel_rfl) rfl) (three (fun W hW => pair1_0 L A0 A1 none B0 B1 none lc n0 n1 0 c0 c1 0 m0 m1 0 d0 d1 0 t t oa ob a0 b0 _ _ _ _ W (HL_3.out.below hW) (HA_3.out.below hW) (HB_3.out.below hW) p0 (Nat.lt_of_lt_of_le zfb hW.size) (Nat.lt_of_lt_of_le zgb hW.size) (Nat.lt_of_lt_of_le zpa hW.size) (Nat.lt_of_lt_of_le zpb hW.size) ((hW.cell zfb).trans fb_3c0) ((hW.cell zgb).trans gb_3c0) ((hW.cell zgb).trans gb_3c1) ((hW.cell zgb).trans gb_3c2) ((hW.cell zgb).trans gb_3c3) ((hW.cell zpa).trans pa_3c0) ((hW.cell zpa).trans pa_3c1) ((hW.cell zpa).trans pa_3c2) ((hW.cell zpa).trans pa_3c3) ((hW.cell zpa).trans pa_3c4) ((hW.cell zpb).trans pb_3c0) ((hW.cell zpb).trans pb_3c1) ((hW.cell zpb).trans pb_3c2) ((hW.cell zpb).trans pb_3c3) ((hW.cell zpb).trans pb_3c4)) (fun W hW => pair1_1 L A0 A1 none B0 B1 none lc n0 n1 0 c0 c1 0 m0 m1 0 d0 d1 0 t t oa ob a1 b1 _ _ _ _ W (HL_3.out.below hW) (HA1_3.out.below hW) (HB1_3.out.below hW) p1 (Nat.lt_of_lt_of_le zfb hW.size) (Nat.lt_of_lt_of_le zgb hW.size) (Nat.lt_of_lt_of_le zpa hW.size) (Nat.lt_of_lt_of_le zpb hW.size) ((hW.cell zfb).trans fb_3c0) ((hW.cell zgb).trans gb_3c0) ((hW.cell zgb).trans gb_3c1) ((hW.cell zgb).trans gb_3c2) ((hW.cell zgb).trans gb_3c3) ((hW.cell zpa).trans pa_3c0) ((hW.cell zpa).trans pa_3c1) ((hW.cell zpa).trans pa_3c2) ((hW.cell zpa).trans pa_3c3) ((hW.cell zpa).trans pa_3c4) ((hW.cell zpb).trans pb_3c0) ((hW.cell zpb).trans pb_3c1) ((hW.cell zpb).trans pb_3c2) ((hW.cell zpb).trans pb_3c3) ((hW.cell zpb).trans pb_3c4)) (fun W hW => pair1_2 L A0 A1 none B0 B1 none lc n0 n1 0 c0 c1 0 m0 m1 0 d0 d1 0 t t oa ob [] [] _ _ _ _ W (HL_3.out.below hW) (Lst.nil _) (Lst.nil _) apart_n (Nat.lt_of_lt_of_le zfb hW.size) (Nat.lt_of_lt_of_le zgb hW.size) (Nat.lt_of_lt_of_le zpa hW.size) (Nat.lt_of_lt_of_le zpb hW.size) ((hW.cell zfb).trans fb_3c0) ((hW.cell zgb).trans gb_3c0) ((hW.cell zgb).trans gb_3c1) ((hW.cell zgb).trans gb_3c2) ((hW.cell zgb).trans gb_3c3) ((hW.cell zpa).trans pa_3c0) ((hW.cell zpa).trans pa_3c1) ((hW.cell zpa).trans pa_3c2) ((hW.cell zpa).trans pa_3c3) ((hW.cell zpa).trans pa_3c4) ((hW.cell zpb).trans pb_3c0) ((hW.cell zpb).trans pb_3c1) ((hW.cell zpb).trans pb_3c2) ((hW.cell zpb).trans pb_3c3) ((hW.cell zpb).trans pb_3c4))))
  clear zfb zgb zpa zpb
  go_wp2_with fail
  refine (HE.out).mono ?_
  rintro e w4 ⟨⟨C0, C1, C2, e0, e1, e2, f0, f1, f2, rfl, hr0, hr1, hr2⟩, hb4⟩
  have k4 : Below w3.heap.size w3 w4 := hb4
  clear hb4
  have S4 := k4.size
  have gb_4c0 := (k4.cell (p := ⟨Z, 0, none⟩) (by show Z < _; omega)).trans gb_3c0
  have gb_4c1 := (k4.cell (p := ⟨Z, 1, none⟩) (by show Z < _; omega)).trans gb_3c1
  have gb_4c2 := (k4.cell (p := ⟨Z, 2, none⟩) (by show Z < _; omega)).trans gb_3c2
  have gb_4c3 := (k4.cell (p := ⟨Z, 3, none⟩) (by show Z < _; omega)).trans gb_3c3
  have pa_4c0 := (k4.cell (p := ⟨Z + 1, 0, none⟩) (by show Z + 1 < _; omega)).trans pa_3c0
  have pa_4c1 := (k4.cell (p := ⟨Z + 1, 1, none⟩) (by show Z + 1 < _; omega)).trans pa_3c1
  have pa_4c2 := (k4.cell (p := ⟨Z + 1, 2, none⟩) (by show Z + 1 < _; omega)).trans pa_3c2
  have pa_4c3 := (k4.cell (p := ⟨Z + 1, 3, none⟩) (by show Z + 1 < _; omega)).trans pa_3c3
  have pa_4c4 := (k4.cell (p := ⟨Z + 1, 4, none⟩) (by show Z + 1 < _; omega)).trans pa_3c4
  have pb_4c0 := (k4.cell (p := ⟨Z + 1 + 1, 0, none⟩) (by show Z + 1 + 1 < _; omega)).trans pb_3c0
  have pb_4c1 := (k4.cell (p := ⟨Z + 1 + 1, 1, none⟩) (by show Z + 1 + 1 < _; omega)).trans pb_3c1
  have pb_4c2 := (k4.cell (p := ⟨Z + 1 + 1, 2, none⟩) (by show Z + 1 + 1 < _; omega)).trans pb_3c2
  have pb_4c3 := (k4.cell (p := ⟨Z + 1 + 1, 3, none⟩) (by show Z + 1 + 1 < _; omega)).trans pb_3c3
  have pb_4c4 := (k4.cell (p := ⟨Z + 1 + 1, 4, none⟩) (by show Z + 1 + 1 < _; omega)).trans pb_3c4
  have fb_4c0 := (k4.cell (p := ⟨Z + 1 + 1 + 1, 0, none⟩) (by show Z + 1 + 1 + 1 < _; omega)).trans fb_3c0
  have res_4c0 := (k4.cell (p := ⟨Z + 1 + 1 + 1 + 1, 0, none⟩) (by show Z + 1 + 1 + 1 + 1 < _; omega)).trans res_3c0
  have res_4c1 := (k4.cell (p := ⟨Z + 1 + 1 + 1 + 1, 1, none⟩) (by show Z + 1 + 1 + 1 + 1 < _; omega)).trans res_3c1
  have res_4c2 := (k4.cell (p := ⟨Z + 1 + 1 + 1 + 1, 2, none⟩) (by show Z + 1 + 1 + 1 + 1 < _; omega)).trans res_3c2
  have res_4c3 := (k4.cell (p := ⟨Z + 1 + 1 + 1 + 1, 3, none⟩) (by show Z + 1 + 1 + 1 + 1 < _; omega)).trans res_3c3
  have res_4c4 := (k4.cell (p := ⟨Z + 1 + 1 + 1 + 1, 4, none⟩) (by show Z + 1 + 1 + 1 + 1 < _; omega)).trans res_3c4
  have res_4f0 := (k4.frozen (p := ⟨Z + 1 + 1 + 1 + 1, 0, none⟩) (by show Z + 1 + 1 + 1 + 1 < _; omega)).trans res_3f0
  have res_4f1 := (k4.frozen (p := ⟨Z + 1 + 1 + 1 + 1, 1, none⟩) (by show Z + 1 + 1 + 1 + 1 < _; omega)).trans res_3f1
  have res_4f2 := (k4.frozen (p := ⟨Z + 1 + 1 + 1 + 1, 2, none⟩) (by show Z + 1 + 1 + 1 + 1 < _; omega)).trans res_3f2
  have res_4f3 := (k4.frozen (p := ⟨Z + 1 + 1 + 1 + 1, 3, none⟩) (by show Z + 1 + 1 + 1 + 1 < _; omega)).trans res_3f3
  have res_4f4 := (k4.frozen (p := ⟨Z + 1 + 1 + 1 + 1, 4, none⟩) (by show Z + 1 + 1 + 1 + 1 < _; omega)).trans res_3f4
  have HL_4 := Lib.hid (HL_3.out.below k4)
  have HA_4 := Lib.hid (HA_3.out.below k4)
  have HA1_4 := Lib.hid (HA1_3.out.below k4)
  have HB_4 := Lib.hid (HB_3.out.below k4)
  have HB1_4 := Lib.hid (HB1_3.out.below k4)
  have BB4 := Lib.hid (BB3.out.trans (k4.mono BB3.out.size))
  clear k4 gb_3c0 gb_3c1 gb_3c2 gb_3c3 pa_3c0 pa_3c1 pa_3c2 pa_3c3 pa_3c4 pb_3c0 pb_3c1 pb_3c2 pb_3c3 pb_3c4 fb_3c0 res_3c0 res_3c1 res_3c2 res_3c3 res_3c4 res_3f0 res_3f1 res_3f2 res_3f3 res_3f4 HL_3 HA_3 HA1_3 HB_3 HB1_3 BB3
  obtain ⟨_, _, q0, -⟩ := hr0
  obtain ⟨_, _, q1, -⟩ := hr1
  obtain ⟨_, _, q2, -⟩ := hr2
  obtain rfl : e0 = 0 := by simpa using (Value.slice.inj q0).2.1
  obtain rfl : e1 = 0 := by simpa using (Value.slice.inj q1).2.1
  obtain rfl : e2 = 0 := by simpa using (Value.slice.inj q2).2.1
  clear q0 q1 q2
  go_upto_region 4 with fail
  obtain ⟨R, hR⟩ : ∃ Z, w4.heap.size = Z := ⟨_, rfl⟩
  obtain ⟨w5, hw5⟩ : ∃ Z, (w4.alloc (.cells #[.slice C0 0 f0, .slice C1 0 f1, .slice C2 0 f2] 208)) = Z := ⟨_, rfl⟩
  have k5 : Below w4.heap.size w4 w5 := by rw [← hw5]; exact ((Below.refl _ _).alloc (Nat.le_refl _) _)
  have z5 : R < w5.heap.size := by rw [← hw5, ← hR]; simp
  have y5 : w4.heap.size = R := hR
  have rg_5c0 : w5.cell? ⟨R, 0, none⟩ = some (.slice C0 0 f0) := by rw [← hw5, ← hR]; simp [go_sem]
  have rg_5c1 : w5.cell? ⟨R, 1, none⟩ = some (.slice C1 0 f1) := by rw [← hw5, ← hR]; simp [go_sem]
  have rg_5c2 : w5.cell? ⟨R, 2, none⟩ = some (.slice C2 0 f2) := by rw [← hw5, ← hR]; simp [go_sem]
  (try rw [hw5]); (try rw [hR])
  clear hw5 hR
  have S5 := k5.size
  have gb_5c0 := (k5.cell (p := ⟨Z, 0, none⟩) (by show Z < _; omega)).trans gb_4c0
  have gb_5c1 := (k5.cell (p := ⟨Z, 1, none⟩) (by show Z < _; omega)).trans gb_4c1
  have gb_5c2 := (k5.cell (p := ⟨Z, 2, none⟩) (by show Z < _; omega)).trans gb_4c2
  have gb_5c3 := (k5.cell (p := ⟨Z, 3, none⟩) (by show Z < _; omega)).trans gb_4c3
  have pa_5c0 := (k5.cell (p := ⟨Z + 1, 0, none⟩) (by show Z + 1 < _; omega)).trans pa_4c0
  have pa_5c1 := (k5.cell (p := ⟨Z + 1, 1, none⟩) (by show Z + 1 < _; omega)).trans pa_4c1
  have pa_5c2 := (k5.cell (p := ⟨Z + 1, 2, none⟩) (by show Z + 1 < _; omega)).trans pa_4c2
  have pa_5c3 := (k5.cell (p := ⟨Z + 1, 3, none⟩) (by show Z + 1 < _; omega)).trans pa_4c3
  have pa_5c4 := (k5.cell (p := ⟨Z + 1, 4, none⟩) (by show Z + 1 < _; omega)).trans pa_4c4
  have pb_5c0 := (k5.cell (p := ⟨Z + 1 + 1, 0, none⟩) (by show Z + 1 + 1 < _; omega)).trans pb_4c0
  have pb_5c1 := (k5.cell (p := ⟨Z + 1 + 1, 1, none⟩) (by show Z + 1 + 1 < _; omega)).trans pb_4c1
  have pb_5c2 := (k5.cell (p := ⟨Z + 1 + 1, 2, none⟩) (by show Z + 1 + 1 < _; omega)).trans pb_4c2
  have pb_5c3 := (k5.cell (p := ⟨Z + 1 + 1, 3, none⟩) (by show Z + 1 + 1 < _; omega)).trans pb_4c3
  have pb_5c4 := (k5.cell (p := ⟨Z + 1 + 1, 4, none⟩) (by show Z + 1 + 1 < _; omega)).trans pb_4c4
  have fb_5c0 := (k5.cell (p := ⟨Z + 1 + 1 + 1, 0, none⟩) (by show Z + 1 + 1 + 1 < _; omega)).trans fb_4c0
  have res_5c0 := (k5.cell (p := ⟨Z + 1 + 1 + 1 + 1, 0, none⟩) (by show Z + 1 + 1 + 1 + 1 < _; omega)).trans res_4c0
  have res_5c1 := (k5.cell (p := ⟨Z + 1 + 1 + 1 + 1, 1, none⟩) (by show Z + 1 + 1 + 1 + 1 < _; omega)).trans res_4c1
  have res_5c2 := (k5.cell (p := ⟨Z + 1 + 1 + 1 + 1, 2, none⟩) (by show Z + 1 + 1 + 1 + 1 < _; omega)).trans res_4c2
  have res_5c3 := (k5.cell (p := ⟨Z + 1 + 1 + 1 + 1, 3, none⟩) (by show Z + 1 + 1 + 1 + 1 < _; omega)).trans res_4c3
  have res_5c4 := (k5.cell (p := ⟨Z + 1 + 1 + 1 + 1, 4, none⟩) (by show Z + 1 + 1 + 1 + 1 < _; omega)).trans res_4c4
  have res_5f0 := (k5.frozen (p := ⟨Z + 1 + 1 + 1 + 1, 0, none⟩) (by show Z + 1 + 1 + 1 + 1 < _; omega)).trans res_4f0
  have res_5f1 := (k5.frozen (p := ⟨Z + 1 + 1 + 1 + 1, 1, none⟩) (by show Z + 1 + 1 + 1 + 1 < _; omega)).trans res_4f1
  have res_5f2 := (k5.frozen (p := ⟨Z + 1 + 1 + 1 + 1, 2, none⟩) (by show Z + 1 + 1 + 1 + 1 < _; omega)).trans res_4f2
  have res_5f3 := (k5.frozen (p := ⟨Z + 1 + 1 + 1 + 1, 3, none⟩) (by show Z + 1 + 1 + 1 + 1 < _; omega)).trans res_4f3
  have res_5f4 := (k5.frozen (p := ⟨Z + 1 + 1 + 1 + 1, 4, none⟩) (by show Z + 1 + 1 + 1 + 1 < _; omega)).trans res_4f4
  have HL_5 := Lib.hid (HL_4.out.below k5)
  have HA_5 := Lib.hid (HA_4.out.below k5)
  have HA1_5 := Lib.hid (HA1_4.out.below k5)
  have HB_5 := Lib.hid (HB_4.out.below k5)
  have HB1_5 := Lib.hid (HB1_4.out.below k5)
  have BB5 := Lib.hid (BB4.out.trans (k5.mono BB4.out.size))
  clear k5 gb_4c0 gb_4c1 gb_4c2 gb_4c3 pa_4c0 pa_4c1 pa_4c2 pa_4c3 pa_4c4 pb_4c0 pb_4c1 pb_4c2 pb_4c3 pb_4c4 fb_4c0 res_4c0 res_4c1 res_4c2 res_4c3 res_4c4 res_4f0 res_4f1 res_4f2 res_4f3 res_4f4 HL_4 HA_4 HA1_4 HB_4 HB1_4 BB4
  go_wp2_with fail
  refine (patch_dn t off C0 C1 C2 0 0 0 f0 f1 f2 _).mono ?_
  rintro e w6 ⟨rfl, hb6⟩
  have k6 : Below w5.heap.size w5 w6 := hb6
  clear hb6
  have S6 := k6.size
  have gb_6c0 := (k6.cell (p := ⟨Z, 0, none⟩) (by show Z < _; omega)).trans gb_5c0
  have gb_6c1 := (k6.cell (p := ⟨Z, 1, none⟩) (by show Z < _; omega)).trans gb_5c1
  have gb_6c2 := (k6.cell (p := ⟨Z, 2, none⟩) (by show Z < _; omega)).trans gb_5c2
  have gb_6c3 := (k6.cell (p := ⟨Z, 3, none⟩) (by show Z < _; omega)).trans gb_5c3
  have pa_6c0 := (k6.cell (p := ⟨Z + 1, 0, none⟩) (by show Z + 1 < _; omega)).trans pa_5c0
  have pa_6c1 := (k6.cell (p := ⟨Z + 1, 1, none⟩) (by show Z + 1 < _; omega)).trans pa_5c1
  have pa_6c2 := (k6.cell (p := ⟨Z + 1, 2, none⟩) (by show Z + 1 < _; omega)).trans pa_5c2
  have pa_6c3 := (k6.cell (p := ⟨Z + 1, 3, none⟩) (by show Z + 1 < _; omega)).trans pa_5c3
  have pa_6c4 := (k6.cell (p := ⟨Z + 1, 4, none⟩) (by show Z + 1 < _; omega)).trans pa_5c4
  have pb_6c0 := (k6.cell (p := ⟨Z + 1 + 1, 0, none⟩) (by show Z + 1 + 1 < _; omega)).trans pb_5c0
  have pb_6c1 := (k6.cell (p := ⟨Z + 1 + 1, 1, none⟩) (by show Z + 1 + 1 < _; omega)).trans pb_5c1
  have pb_6c2 := (k6.cell (p := ⟨Z + 1 + 1, 2, none⟩) (by show Z + 1 + 1 < _; omega)).trans pb_5c2
  have pb_6c3 := (k6.cell (p := ⟨Z + 1 + 1, 3, none⟩) (by show Z + 1 + 1 < _; omega)).trans pb_5c3
  have pb_6c4 := (k6.cell (p := ⟨Z + 1 + 1, 4, none⟩) (by show Z + 1 + 1 < _; omega)).trans pb_5c4
  have fb_6c0 := (k6.cell (p := ⟨Z + 1 + 1 + 1, 0, none⟩) (by show Z + 1 + 1 + 1 < _; omega)).trans fb_5c0
  have res_6c0 := (k6.cell (p := ⟨Z + 1 + 1 + 1 + 1, 0, none⟩) (by show Z + 1 + 1 + 1 + 1 < _; omega)).trans res_5c0
  have res_6c1 := (k6.cell (p := ⟨Z + 1 + 1 + 1 + 1, 1, none⟩) (by show Z + 1 + 1 + 1 + 1 < _; omega)).trans res_5c1
  have res_6c2 := (k6.cell (p := ⟨Z + 1 + 1 + 1 + 1, 2, none⟩) (by show Z + 1 + 1 + 1 + 1 < _; omega)).trans res_5c2
  have res_6c3 := (k6.cell (p := ⟨Z + 1 + 1 + 1 + 1, 3, none⟩) (by show Z + 1 + 1 + 1 + 1 < _; omega)).trans res_5c3
  have res_6c4 := (k6.cell (p := ⟨Z + 1 + 1 + 1 + 1, 4, none⟩) (by show Z + 1 + 1 + 1 + 1 < _; omega)).trans res_5c4
  have res_6f0 := (k6.frozen (p := ⟨Z + 1 + 1 + 1 + 1, 0, none⟩) (by show Z + 1 + 1 + 1 + 1 < _; omega)).trans res_5f0
  have res_6f1 := (k6.frozen (p := ⟨Z + 1 + 1 + 1 + 1, 1, none⟩) (by show Z + 1 + 1 + 1 + 1 < _; omega)).trans res_5f1
  have res_6f2 := (k6.frozen (p := ⟨Z + 1 + 1 + 1 + 1, 2, none⟩) (by show Z + 1 + 1 + 1 + 1 < _; omega)).trans res_5f2
  have res_6f3 := (k6.frozen (p := ⟨Z + 1 + 1 + 1 + 1, 3, none⟩) (by show Z + 1 + 1 + 1 + 1 < _; omega)).trans res_5f3
  have res_6f4 := (k6.frozen (p := ⟨Z + 1 + 1 + 1 + 1, 4, none⟩) (by show Z + 1 + 1 + 1 + 1 < _; omega)).trans res_5f4
  have rg_6c0 := (k6.cell (p := ⟨R, 0, none⟩) (by show R < _; omega)).trans rg_5c0
  have rg_6c1 := (k6.cell (p := ⟨R, 1, none⟩) (by show R < _; omega)).trans rg_5c1
  have rg_6c2 := (k6.cell (p := ⟨R, 2, none⟩) (by show R < _; omega)).trans rg_5c2
  have HL_6 := Lib.hid (HL_5.out.below k6)
  have HA_6 := Lib.hid (HA_5.out.below k6)
  have HA1_6 := Lib.hid (HA1_5.out.below k6)
  have HB_6 := Lib.hid (HB_5.out.below k6)
  have HB1_6 := Lib.hid (HB1_5.out.below k6)
  have BB6 := Lib.hid (BB5.out.trans (k6.mono BB5.out.size))
  clear k6 gb_5c0 gb_5c1 gb_5c2 gb_5c3 pa_5c0 pa_5c1 pa_5c2 pa_5c3 pa_5c4 pb_5c0 pb_5c1 pb_5c2 pb_5c3 pb_5c4 fb_5c0 res_5c0 res_5c1 res_5c2 res_5c3 res_5c4 res_5f0 res_5f1 res_5f2 res_5f3 res_5f4 rg_5c0 rg_5c1 rg_5c2 HL_5 HA_5 HA1_5 HB_5 HB1_5 BB5
  clear gb_6c0 gb_6c1 gb_6c2 gb_6c3
  clear pa_6c0 pa_6c1 pa_6c2 pa_6c3 pa_6c4
  clear pb_6c0 pb_6c1 pb_6c2 pb_6c3 pb_6c4
  clear fb_6c0
  clear rg_6c0 rg_6c1 rg_6c2
  go_wp2_with fail
  refine bodyPost_ret (v := .tuple #[.agg #[.int .i64 t, .slice C0 0 f0, .slice C1 0 f1, .slice C2 0 f2, .bool off], .int .i64 0]) (by simp [results, Try.results101, go_sem, res_6c0, res_6c1, res_6c2, res_6c3, res_6c4]) rfl ⟨⟨C0, C1, C2, f0, f1, f2, rfl⟩, (((((BB6.out.setCell (p := ⟨Z + 1 + 1 + 1 + 1, 0, none⟩) (by show _ ≤ Z + 1 + 1 + 1 + 1; omega) _).setCell (p := ⟨Z + 1 + 1 + 1 + 1, 1, none⟩) (by show _ ≤ Z + 1 + 1 + 1 + 1; omega) _).setCell (p := ⟨Z + 1 + 1 + 1 + 1, 2, none⟩) (by show _ ≤ Z + 1 + 1 + 1 + 1; omega) _).setCell (p := ⟨Z + 1 + 1 + 1 + 1, 3, none⟩) (by show _ ≤ Z + 1 + 1 + 1 + 1; omega) _).setCell (p := ⟨Z + 1 + 1 + 1 + 1, 4, none⟩) (by show _ ≤ Z + 1 + 1 + 1 + 1; omega) _)⟩

set_option maxRecDepth 100000 in
set_option maxHeartbeats 16000000 in
/-- Meet of patches that have nothing in common -/
theorem Meet_dn (L A0 A1 B0 B1 : Option Addr) (lc n0 n1 c0 c1 m0 m1 d0 d1 : Nat) (a0 a1 b0 b1 : List R3) (w : World) (hL : Runs w (.slice L 5 lc) landB)
    (ha0 : Runs w (.slice A0 n0 c0) a0) (ha1 : Runs w (.slice A1 n1 c1) a1) (hb0 : Runs w (.slice B0 m0 d0) b0) (hb1 : Runs w (.slice B1 m1 d1) b1) (fa0 : Afloat a0) (fa1 : Afloat a1) (fb0 : Afloat b0) (fb1 : Afloat b1) (p0 : Apart2 a0 b0) (p1 : Apart2 a1 b1) :
    Calls Try.prog 48 #[.agg #[.int .i64 5, .int .i64 5, .int .i64 100, .slice L 5 lc], .agg #[.int .i64 0, .slice A0 n0 c0, .slice A1 n1 c1, .slice none 0 0, .bool false], .agg #[.int .i64 0, .slice B0 m0 d0, .slice B1 m1 d1, .slice none 0 0, .bool false]] w fun e w' => e = .returned (.tuple #[.agg #[.int .i64 0, .slice none 0 0, .slice none 0 0, .slice none 0 0, .bool false], .int .i64 7]) ∧ Below w.heap.size w w' := by
  have BB0 := Lib.hid (Below.refl w.heap.size w)
  have HL_0 := Lib.hid hL
  have HA_0 := Lib.hid ha0
  have HA1_0 := Lib.hid ha1
  have HB_0 := Lib.hid hb0
  have HB1_0 := Lib.hid hb1
  clear hL ha0 ha1 hb0 hb1
  go_enter Try.func48, Try.ntmps48
  go_upto_region 1 with fail
  obtain ⟨Z, hZ⟩ : ∃ Z, w.heap.size = Z := ⟨_, rfl⟩
  obtain ⟨w1, hw1⟩ : ∃ Z, ((((w.alloc (.cells #[.int .i64 5, .int .i64 5, .int .i64 100, .slice L 5 lc] 24)).alloc (.cells #[.int .i64 0, .slice A0 n0 c0, .slice A1 n1 c1, .slice none 0 0, .bool false] 89)).alloc (.cells #[.int .i64 0, .slice B0 m0 d0, .slice B1 m1 d1, .slice none 0 0, .bool false] 89)).alloc (.cells #[.int .i64 0, .slice none 0 0, .slice none 0 0, .slice none 0 0, .bool false] 89)) = Z := ⟨_, rfl⟩
  have k1 : Below w.heap.size w w1 := by rw [← hw1]; exact (((((Below.refl _ _).alloc (Nat.le_refl _) _).alloc (by simp) _).alloc (by simp; omega) _).alloc (by simp; omega) _)
  have z1 : Z + 1 + 1 + 1 < w1.heap.size := by rw [← hw1, ← hZ]; simp
  have y1 : w.heap.size = Z := hZ
  have gb_1c0 : w1.cell? ⟨Z, 0, none⟩ = some (.int .i64 5) := by rw [← hw1, ← hZ]; simp [go_sem]
  have gb_1c1 : w1.cell? ⟨Z, 1, none⟩ = some (.int .i64 5) := by rw [← hw1, ← hZ]; simp [go_sem]
  have gb_1c2 : w1.cell? ⟨Z, 2, none⟩ = some (.int .i64 100) := by rw [← hw1, ← hZ]; simp [go_sem]
  have gb_1c3 : w1.cell? ⟨Z, 3, none⟩ = some (.slice L 5 lc) := by rw [← hw1, ← hZ]; simp [go_sem]
  have pa_1c0 : w1.cell? ⟨Z + 1, 0, none⟩ = some (.int .i64 0) := by rw [← hw1, ← hZ]; simp [go_sem]
  have pa_1c1 : w1.cell? ⟨Z + 1, 1, none⟩ = some (.slice A0 n0 c0) := by rw [← hw1, ← hZ]; simp [go_sem]
  have pa_1c2 : w1.cell? ⟨Z + 1, 2, none⟩ = some (.slice A1 n1 c1) := by rw [← hw1, ← hZ]; simp [go_sem]
  have pa_1c3 : w1.cell? ⟨Z + 1, 3, none⟩ = some (.slice none 0 0) := by rw [← hw1, ← hZ]; simp [go_sem]
  have pa_1c4 : w1.cell? ⟨Z + 1, 4, none⟩ = some (.bool false) := by rw [← hw1, ← hZ]; simp [go_sem]
  have pb_1c0 : w1.cell? ⟨Z + 1 + 1, 0, none⟩ = some (.int .i64 0) := by rw [← hw1, ← hZ]; simp [go_sem]
  have pb_1c1 : w1.cell? ⟨Z + 1 + 1, 1, none⟩ = some (.slice B0 m0 d0) := by rw [← hw1, ← hZ]; simp [go_sem]
  have pb_1c2 : w1.cell? ⟨Z + 1 + 1, 2, none⟩ = some (.slice B1 m1 d1) := by rw [← hw1, ← hZ]; simp [go_sem]
  have pb_1c3 : w1.cell? ⟨Z + 1 + 1, 3, none⟩ = some (.slice none 0 0) := by rw [← hw1, ← hZ]; simp [go_sem]
  have pb_1c4 : w1.cell? ⟨Z + 1 + 1, 4, none⟩ = some (.bool false) := by rw [← hw1, ← hZ]; simp [go_sem]
  have res_1c0 : w1.cell? ⟨Z + 1 + 1 + 1, 0, none⟩ = some (.int .i64 0) := by rw [← hw1, ← hZ]; simp [go_sem]
  have res_1c1 : w1.cell? ⟨Z + 1 + 1 + 1, 1, none⟩ = some (.slice none 0 0) := by rw [← hw1, ← hZ]; simp [go_sem]
  have res_1c2 : w1.cell? ⟨Z + 1 + 1 + 1, 2, none⟩ = some (.slice none 0 0) := by rw [← hw1, ← hZ]; simp [go_sem]
  have res_1c3 : w1.cell? ⟨Z + 1 + 1 + 1, 3, none⟩ = some (.slice none 0 0) := by rw [← hw1, ← hZ]; simp [go_sem]
  have res_1c4 : w1.cell? ⟨Z + 1 + 1 + 1, 4, none⟩ = some (.bool false) := by rw [← hw1, ← hZ]; simp [go_sem]
  have res_1f0 : w1.frozen? ⟨Z + 1 + 1 + 1, 0, none⟩ = false := by rw [← hw1, ← hZ]; simp [go_sem]
  have res_1f1 : w1.frozen? ⟨Z + 1 + 1 + 1, 1, none⟩ = false := by rw [← hw1, ← hZ]; simp [go_sem]
  have res_1f2 : w1.frozen? ⟨Z + 1 + 1 + 1, 2, none⟩ = false := by rw [← hw1, ← hZ]; simp [go_sem]
  have res_1f3 : w1.frozen? ⟨Z + 1 + 1 + 1, 3, none⟩ = false := by rw [← hw1, ← hZ]; simp [go_sem]
  have res_1f4 : w1.frozen? ⟨Z + 1 + 1 + 1, 4, none⟩ = false := by rw [← hw1, ← hZ]; simp [go_sem]
  (try rw [hw1]); (try rw [hZ])
  clear hw1 hZ
  have S1 := k1.size
  have HL_1 := Lib.hid (HL_0.out.below k1)
  have HA_1 := Lib.hid (HA_0.out.below k1)
  have HA1_1 := Lib.hid (HA1_0.out.below k1)
  have HB_1 := Lib.hid (HB_0.out.below k1)
  have HB1_1 := Lib.hid (HB1_0.out.below k1)
  have BB1 := Lib.hid (BB0.out.trans (k1.mono BB0.out.size))
  clear k1 HL_0 HA_0 HA1_0 HB_0 HB1_0 BB0
  go_wp2_with fail
  refine (pair_dn L A0 A1 B0 B1 lc n0 n1 c0 c1 m0 m1 d0 d1 0 false false false a0 a1 b0 b1 _ HL_1.out HA_1.out HA1_1.out HB_1.out HB1_1.out (by decide) fa0 fa1 fb0 fb1 p0 p1).mono ?_
  rintro e w2 ⟨⟨C0, C1, C2, e0, e1, e2, rfl⟩, hb2⟩
  have k2 : Below w1.heap.size w1 w2 := hb2
  clear hb2
  have S2 := k2.size
  have gb_2c0 := (k2.cell (p := ⟨Z, 0, none⟩) (by show Z < _; omega)).trans gb_1c0
  have gb_2c1 := (k2.cell (p := ⟨Z, 1, none⟩) (by show Z < _; omega)).trans gb_1c1
  have gb_2c2 := (k2.cell (p := ⟨Z, 2, none⟩) (by show Z < _; omega)).trans gb_1c2
  have gb_2c3 := (k2.cell (p := ⟨Z, 3, none⟩) (by show Z < _; omega)).trans gb_1c3
  have pa_2c0 := (k2.cell (p := ⟨Z + 1, 0, none⟩) (by show Z + 1 < _; omega)).trans pa_1c0
  have pa_2c1 := (k2.cell (p := ⟨Z + 1, 1, none⟩) (by show Z + 1 < _; omega)).trans pa_1c1
  have pa_2c2 := (k2.cell (p := ⟨Z + 1, 2, none⟩) (by show Z + 1 < _; omega)).trans pa_1c2
  have pa_2c3 := (k2.cell (p := ⟨Z + 1, 3, none⟩) (by show Z + 1 < _; omega)).trans pa_1c3
  have pa_2c4 := (k2.cell (p := ⟨Z + 1, 4, none⟩) (by show Z + 1 < _; omega)).trans pa_1c4
  have pb_2c0 := (k2.cell (p := ⟨Z + 1 + 1, 0, none⟩) (by show Z + 1 + 1 < _; omega)).trans pb_1c0
  have pb_2c1 := (k2.cell (p := ⟨Z + 1 + 1, 1, none⟩) (by show Z + 1 + 1 < _; omega)).trans pb_1c1
  have pb_2c2 := (k2.cell (p := ⟨Z + 1 + 1, 2, none⟩) (by show Z + 1 + 1 < _; omega)).trans pb_1c2
  have pb_2c3 := (k2.cell (p := ⟨Z + 1 + 1, 3, none⟩) (by show Z + 1 + 1 < _; omega)).trans pb_1c3
  have pb_2c4 := (k2.cell (p := ⟨Z + 1 + 1, 4, none⟩) (by show Z + 1 + 1 < _; omega)).trans pb_1c4
  have res_2c0 := (k2.cell (p := ⟨Z + 1 + 1 + 1, 0, none⟩) (by show Z + 1 + 1 + 1 < _; omega)).trans res_1c0
  have res_2c1 := (k2.cell (p := ⟨Z + 1 + 1 + 1, 1, none⟩) (by show Z + 1 + 1 + 1 < _; omega)).trans res_1c1
  have res_2c2 := (k2.cell (p := ⟨Z + 1 + 1 + 1, 2, none⟩) (by show Z + 1 + 1 + 1 < _; omega)).trans res_1c2
  have res_2c3 := (k2.cell (p := ⟨Z + 1 + 1 + 1, 3, none⟩) (by show Z + 1 + 1 + 1 < _; omega)).trans res_1c3
  have res_2c4 := (k2.cell (p := ⟨Z + 1 + 1 + 1, 4, none⟩) (by show Z + 1 + 1 + 1 < _; omega)).trans res_1c4
  have res_2f0 := (k2.frozen (p := ⟨Z + 1 + 1 + 1, 0, none⟩) (by show Z + 1 + 1 + 1 < _; omega)).trans res_1f0
  have res_2f1 := (k2.frozen (p := ⟨Z + 1 + 1 + 1, 1, none⟩) (by show Z + 1 + 1 + 1 < _; omega)).trans res_1f1
  have res_2f2 := (k2.frozen (p := ⟨Z + 1 + 1 + 1, 2, none⟩) (by show Z + 1 + 1 + 1 < _; omega)).trans res_1f2
  have res_2f3 := (k2.frozen (p := ⟨Z + 1 + 1 + 1, 3, none⟩) (by show Z + 1 + 1 + 1 < _; omega)).trans res_1f3
  have res_2f4 := (k2.frozen (p := ⟨Z + 1 + 1 + 1, 4, none⟩) (by show Z + 1 + 1 + 1 < _; omega)).trans res_1f4
  have HL_2 := Lib.hid (HL_1.out.below k2)
  have HA_2 := Lib.hid (HA_1.out.below k2)
  have HA1_2 := Lib.hid (HA1_1.out.below k2)
  have HB_2 := Lib.hid (HB_1.out.below k2)
  have HB1_2 := Lib.hid (HB1_1.out.below k2)
  have BB2 := Lib.hid (BB1.out.trans (k2.mono BB1.out.size))
  clear k2 gb_1c0 gb_1c1 gb_1c2 gb_1c3 pa_1c0 pa_1c1 pa_1c2 pa_1c3 pa_1c4 pb_1c0 pb_1c1 pb_1c2 pb_1c3 pb_1c4 res_1c0 res_1c1 res_1c2 res_1c3 res_1c4 res_1f0 res_1f1 res_1f2 res_1f3 res_1f4 HL_1 HA_1 HA1_1 HB_1 HB1_1 BB1
  go_upto_region 2 with fail
  obtain ⟨R, hR⟩ : ∃ Z, w2.heap.size = Z := ⟨_, rfl⟩
  obtain ⟨w3, hw3⟩ : ∃ Z, (w2.alloc (.cells #[.int .i64 0, .slice C0 0 e0, .slice C1 0 e1, .slice C2 0 e2, .bool false] 89)) = Z := ⟨_, rfl⟩
  have k3 : Below w2.heap.size w2 w3 := by rw [← hw3]; exact ((Below.refl _ _).alloc (Nat.le_refl _) _)
  have z3 : R < w3.heap.size := by rw [← hw3, ← hR]; simp
  have y3 : w2.heap.size = R := hR
  have rg_3c0 : w3.cell? ⟨R, 0, none⟩ = some (.int .i64 0) := by rw [← hw3, ← hR]; simp [go_sem]
  have rg_3c1 : w3.cell? ⟨R, 1, none⟩ = some (.slice C0 0 e0) := by rw [← hw3, ← hR]; simp [go_sem]
  have rg_3c2 : w3.cell? ⟨R, 2, none⟩ = some (.slice C1 0 e1) := by rw [← hw3, ← hR]; simp [go_sem]
  have rg_3c3 : w3.cell? ⟨R, 3, none⟩ = some (.slice C2 0 e2) := by rw [← hw3, ← hR]; simp [go_sem]
  have rg_3c4 : w3.cell? ⟨R, 4, none⟩ = some (.bool false) := by rw [← hw3, ← hR]; simp [go_sem]
  (try rw [hw3]); (try rw [hR])
  clear hw3 hR
  have S3 := k3.size
  have gb_3c0 := (k3.cell (p := ⟨Z, 0, none⟩) (by show Z < _; omega)).trans gb_2c0
  have gb_3c1 := (k3.cell (p := ⟨Z, 1, none⟩) (by show Z < _; omega)).trans gb_2c1
  have gb_3c2 := (k3.cell (p := ⟨Z, 2, none⟩) (by show Z < _; omega)).trans gb_2c2
  have gb_3c3 := (k3.cell (p := ⟨Z, 3, none⟩) (by show Z < _; omega)).trans gb_2c3
  have pa_3c0 := (k3.cell (p := ⟨Z + 1, 0, none⟩) (by show Z + 1 < _; omega)).trans pa_2c0
  have pa_3c1 := (k3.cell (p := ⟨Z + 1, 1, none⟩) (by show Z + 1 < _; omega)).trans pa_2c1
  have pa_3c2 := (k3.cell (p := ⟨Z + 1, 2, none⟩) (by show Z + 1 < _; omega)).trans pa_2c2
  have pa_3c3 := (k3.cell (p := ⟨Z + 1, 3, none⟩) (by show Z + 1 < _; omega)).trans pa_2c3
  have pa_3c4 := (k3.cell (p := ⟨Z + 1, 4, none⟩) (by show Z + 1 < _; omega)).trans pa_2c4
  have pb_3c0 := (k3.cell (p := ⟨Z + 1 + 1, 0, none⟩) (by show Z + 1 + 1 < _; omega)).trans pb_2c0
  have pb_3c1 := (k3.cell (p := ⟨Z + 1 + 1, 1, none⟩) (by show Z + 1 + 1 < _; omega)).trans pb_2c1
  have pb_3c2 := (k3.cell (p := ⟨Z + 1 + 1, 2, none⟩) (by show Z + 1 + 1 < _; omega)).trans pb_2c2
  have pb_3c3 := (k3.cell (p := ⟨Z + 1 + 1, 3, none⟩) (by show Z + 1 + 1 < _; omega)).trans pb_2c3
  have pb_3c4 := (k3.cell (p := ⟨Z + 1 + 1, 4, none⟩) (by show Z + 1 + 1 < _; omega)).trans pb_2c4
  have res_3c0 := (k3.cell (p := ⟨Z + 1 + 1 + 1, 0, none⟩) (by show Z + 1 + 1 + 1 < _; omega)).trans res_2c0
  have res_3c1 := (k3.cell (p := ⟨Z + 1 + 1 + 1, 1, none⟩) (by show Z + 1 + 1 + 1 < _; omega)).trans res_2c1
  have res_3c2 := (k3.cell (p := ⟨Z + 1 + 1 + 1, 2, none⟩) (by show Z + 1 + 1 + 1 < _; omega)).trans res_2c2
  have res_3c3 := (k3.cell (p := ⟨Z + 1 + 1 + 1, 3, none⟩) (by show Z + 1 + 1 + 1 < _; omega)).trans res_2c3
  have res_3c4 := (k3.cell (p := ⟨Z + 1 + 1 + 1, 4, none⟩) (by show Z + 1 + 1 + 1 < _; omega)).trans res_2c4
  have res_3f0 := (k3.frozen (p := ⟨Z + 1 + 1 + 1, 0, none⟩) (by show Z + 1 + 1 + 1 < _; omega)).trans res_2f0
  have res_3f1 := (k3.frozen (p := ⟨Z + 1 + 1 + 1, 1, none⟩) (by show Z + 1 + 1 + 1 < _; omega)).trans res_2f1
  have res_3f2 := (k3.frozen (p := ⟨Z + 1 + 1 + 1, 2, none⟩) (by show Z + 1 + 1 + 1 < _; omega)).trans res_2f2
  have res_3f3 := (k3.frozen (p := ⟨Z + 1 + 1 + 1, 3, none⟩) (by show Z + 1 + 1 + 1 < _; omega)).trans res_2f3
  have res_3f4 := (k3.frozen (p := ⟨Z + 1 + 1 + 1, 4, none⟩) (by show Z + 1 + 1 + 1 < _; omega)).trans res_2f4
  have HL_3 := Lib.hid (HL_2.out.below k3)
  have HA_3 := Lib.hid (HA_2.out.below k3)
  have HA1_3 := Lib.hid (HA1_2.out.below k3)
  have HB_3 := Lib.hid (HB_2.out.below k3)
  have HB1_3 := Lib.hid (HB1_2.out.below k3)
  have BB3 := Lib.hid (BB2.out.trans (k3.mono BB2.out.size))
  clear k3 gb_2c0 gb_2c1 gb_2c2 gb_2c3 pa_2c0 pa_2c1 pa_2c2 pa_2c3 pa_2c4 pb_2c0 pb_2c1 pb_2c2 pb_2c3 pb_2c4 res_2c0 res_2c1 res_2c2 res_2c3 res_2c4 res_2f0 res_2f1 res_2f2 res_2f3 res_2f4 HL_2 HA_2 HA1_2 HB_2 HB1_2 BB2
  clear gb_3c0 gb_3c1 gb_3c2 gb_3c3
  clear pa_3c0 pa_3c1 pa_3c2 pa_3c3 pa_3c4
  clear pb_3c0 pb_3c1 pb_3c2 pb_3c3 pb_3c4
  go_wp2_with fail
  refine bodyPost_ret (v := .tuple #[.agg #[.int .i64 0, .slice none 0 0, .slice none 0 0, .slice none 0 0, .bool false], .int .i64 7]) (by simp [results, Try.results48, go_sem, res_3c0, res_3c1, res_3c2, res_3c3, res_3c4]) rfl ⟨rfl, (((((BB3.out.setCell (p := ⟨Z + 1 + 1 + 1, 0, none⟩) (by show _ ≤ Z + 1 + 1 + 1; omega) _).setCell (p := ⟨Z + 1 + 1 + 1, 1, none⟩) (by show _ ≤ Z + 1 + 1 + 1; omega) _).setCell (p := ⟨Z + 1 + 1 + 1, 2, none⟩) (by show _ ≤ Z + 1 + 1 + 1; omega) _).setCell (p := ⟨Z + 1 + 1 + 1, 3, none⟩) (by show _ ≤ Z + 1 + 1 + 1; omega) _).setCell (p := ⟨Z + 1 + 1 + 1, 4, none⟩) (by show _ ≤ Z + 1 + 1 + 1; omega) _)⟩
end Go.Proofs.Ytnbdnnbeiohmgaa
