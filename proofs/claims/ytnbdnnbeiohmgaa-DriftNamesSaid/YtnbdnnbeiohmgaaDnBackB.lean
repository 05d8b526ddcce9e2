/- drift: before's regions. -/
import Derived.Test.YtnbdnnbeiohmgaaDnBackA
namespace Go.Proofs.Ytnbdnnbeiohmgaa
open Go.RowKit Go.Shelf Go.Lib Go.Maps
attribute [local go_sem] Oper.semAt_some

theorem regionL_dn (l : List (Int × Int)) (R : List R3) (hR : refR (fun x y => decide ((x, y) ∈ l)) 5 5 = R) (hlen : R.length ≤ 8192) (hb : inBay l = true) (hn : l.length ≤ 65536) (L : Option Addr) (lc : Nat) (v : Value) (w : World) (hL : Runs w (.slice L 5 lc) landB) (hv : Lst 2 encC w v l) :
    Calls Try.prog 83 #[.agg #[.int .i64 5, .int .i64 5, .int .i64 100, .slice L 5 lc], v] w fun e w' => (∃ A n c, e = .returned (.tuple #[.slice A n c, .int .i64 0]) ∧ Runs w' (.slice A n c) R) ∧ Below w.heap.size w w' := by
  refine (gregion_gr 5 5 100 (.slice L 5 lc) v landB l w hL hv bay_grid (inBay_mem hb) hn).mono ?_
  rintro e w' ⟨⟨R', hR', v', rfl, hv'⟩, hbw⟩
  have hEq : R' = refR (fun x y => decide ((x, y) ∈ l)) (5 : Int).toNat (5 : Int).toNat := cells_eq2 (by decide) (by decide) (fun p q => by simp) hR'
  have hE2 : R' = R := hEq.trans hR
  subst hE2
  rw [if_pos hlen] at hv' ⊢
  obtain ⟨A, ca, rfl, -⟩ := id hv'
  exact ⟨⟨A, _, ca, rfl, hv'⟩, hbw⟩
theorem clone_none (w : World) : Calls Try.prog 150 #[.slice none 0 0] w fun e w' => e = .returned (.slice none 0 0) ∧ Below w.heap.size w w' := by
  refine (AnyE.slices_Clone_nil Try.cloneRun 0 0 w).mono ?_
  rintro e w' ⟨rfl, rfl⟩
  exact ⟨rfl, Below.refl _ _⟩
/-- what before's boxes hold ahead of each -/
structure BackB (w : World) (L A1 A2 : Option Addr) (lc b1 b2 n2 c1 c2 Pb Zb Fb : Nat) (F0 : Value) (l : List (Int × Int)) : Prop where
  hL : Runs w (.slice L 5 lc) landB
  l0 : Lst 2 encC w F0 l
  fb : HasO w Fb (.cells #[F0, .slice none 0 0] 227 (0, 0))
  pb : HasO w Pb (.cells #[.int .i64 1000, .slice A1 1 c1, .slice A2 n2 c2, .slice none 0 0, .bool false] 89 (0, 0))
  zb : HasO w Zb (.cells #[.int .i64 5, .int .i64 5, .int .i64 100, .slice L 5 lc, .slice (some ⟨b1, 0, none⟩) 1 1, .slice (some ⟨b2, 0, none⟩) 1 1, .int .i64 20, .int .i64 20, .int .i64 10, .int .i64 20, .bool false] 165 (0, 0))
theorem BackB.below {w w' : World} {L A1 A2 : Option Addr} {lc b1 b2 n2 c1 c2 Pb Zb Fb : Nat} {F0 : Value} {l : List (Int × Int)} (h : BackB w L A1 A2 lc b1 b2 n2 c1 c2 Pb Zb Fb F0 l) (hb : Below w.heap.size w w') : BackB w' L A1 A2 lc b1 b2 n2 c1 c2 Pb Zb Fb F0 l :=
  ⟨h.hL.below hb, h.l0.below hb, h.fb.below hb, h.pb.below hb, h.zb.below hb⟩

set_option maxRecDepth 100000 in
set_option maxHeartbeats 8000000 in
theorem before1_0 {L A1 A2 : Option Addr} {lc b1 b2 n2 c1 c2 Pb Zb Fb : Nat} {F0 : Value} {l : List (Int × Int)} {R : List R3} (hR : refR (fun x y => decide ((x, y) ∈ l)) 5 5 = R) (hlen : R.length ≤ 8192) (hbl : inBay l = true) (hn : l.length ≤ 65536) {w : World} (h : BackB w L A1 A2 lc b1 b2 n2 c1 c2 Pb Zb Fb F0 l) :
    Calls Try.prog 149 #[.int .i64 0, .pointer (some ⟨Pb, 0, none⟩), .pointer (some ⟨Zb, 0, none⟩), .pointer (some ⟨Fb, 0, none⟩)] w fun e w' => (∃ A n c, e = .returned (.tuple #[.slice A n c, .int .i64 0]) ∧ Runs w' (.slice A n c) R) ∧ Below w.heap.size w w' := by
  have BB0 := Lib.hid (Below.refl w.heap.size w)
  have HR := Lib.hid (fun W (hW : Below w.heap.size w W) => regionL_dn l R hR hlen hbl hn L lc (F0) W (h.hL.below hW) (h.l0.below hW))
  have zz := h.zb.lt
  have zf := h.fb.lt
  have zc0 : w.cell? ⟨Zb, 0, none⟩ = some (.int .i64 5) := HasO.cell (i := 0) h.zb rfl
  have zc1 : w.cell? ⟨Zb, 1, none⟩ = some (.int .i64 5) := HasO.cell (i := 1) h.zb rfl
  have zc2 : w.cell? ⟨Zb, 2, none⟩ = some (.int .i64 100) := HasO.cell (i := 2) h.zb rfl
  have zc3 : w.cell? ⟨Zb, 3, none⟩ = some (.slice L 5 lc) := HasO.cell (i := 3) h.zb rfl
  have fc0 : w.cell? ⟨Fb, 0, none⟩ = some (F0) := HasO.cell (i := 0) h.fb rfl
  clear h
  go_enter Try.func149, Try.ntmps149
  go_upto_region 3 with fail
  have Q1 := Lib.hid (show Holds w [(Zb, 0, .int .i64 5), (Zb, 1, .int .i64 5), (Zb, 2, .int .i64 100), (Zb, 3, .slice L 5 lc), (Fb, 0, F0)] from (.cons zz (zc0) (.cons zz (zc1) (.cons zz (zc2) (.cons zz (zc3) (.cons zf (fc0) (.nil _)))))))
  go_region_held3 (fun W' => W'.cell? ⟨Zb, 0, none⟩ = some (.int .i64 5) ∧ W'.cell? ⟨Zb, 1, none⟩ = some (.int .i64 5) ∧ W'.cell? ⟨Zb, 2, none⟩ = some (.int .i64 100) ∧ W'.cell? ⟨Zb, 3, none⟩ = some (.slice L 5 lc) ∧ W'.cell? ⟨Fb, 0, none⟩ = some (F0))
    (first | with_reducible exact holds5 Q1.out | with_reducible exact holds5 (.drew Q1.out) | with_reducible exact holds5 Q2.out | fail)
    (first | (go_at_call 83; refine (HR.out _ (by first | exact Below.refl _ _ | exact drewB _)).mono ?_; rintro e w1 ⟨⟨A, n, c, rfl, hr⟩, hb⟩; have kb : Below w.heap.size w w1 := (by first | exact below_plain hb | exact below_of_drew hb); have Q2 := Lib.hid (Q1.out.below kb); have HV := Lib.hid hr; have HB := Lib.hid kb; clear hr hb kb; skip))
  go_wp2_with fail
  exact bodyPost_ret (v := .tuple #[.slice A n c, .int .i64 0]) (by simp [results, Try.results149, go_sem]) rfl ⟨⟨A, n, c, rfl, HV.out⟩, HB.out⟩

set_option maxRecDepth 100000 in
set_option maxHeartbeats 8000000 in
theorem before1_1 {L A1 A2 : Option Addr} {lc b1 b2 n2 c1 c2 Pb Zb Fb : Nat} {F0 : Value} {l : List (Int × Int)} {R : List R3} (_hR : refR (fun x y => decide ((x, y) ∈ l)) 5 5 = R) (_hlen : R.length ≤ 8192) (_hbl : inBay l = true) (_hn : l.length ≤ 65536) {w : World} (h : BackB w L A1 A2 lc b1 b2 n2 c1 c2 Pb Zb Fb F0 l) :
    Calls Try.prog 149 #[.int .i64 1, .pointer (some ⟨Pb, 0, none⟩), .pointer (some ⟨Zb, 0, none⟩), .pointer (some ⟨Fb, 0, none⟩)] w fun e w' => (∃ A n c, e = .returned (.tuple #[.slice A n c, .int .i64 0]) ∧ Runs w' (.slice A n c) []) ∧ Below w.heap.size w w' := by
  have BB0 := Lib.hid (Below.refl w.heap.size w)
  have HR := Lib.hid (fun W (hW : Below w.heap.size w W) => regionL_dn [] [] (by decide +kernel) (by decide) (by decide) (by decide) L lc (.slice none 0 0) W (h.hL.below hW) (Lst.nil _))
  have zz := h.zb.lt
  have zf := h.fb.lt
  have zc0 : w.cell? ⟨Zb, 0, none⟩ = some (.int .i64 5) := HasO.cell (i := 0) h.zb rfl
  have zc1 : w.cell? ⟨Zb, 1, none⟩ = some (.int .i64 5) := HasO.cell (i := 1) h.zb rfl
  have zc2 : w.cell? ⟨Zb, 2, none⟩ = some (.int .i64 100) := HasO.cell (i := 2) h.zb rfl
  have zc3 : w.cell? ⟨Zb, 3, none⟩ = some (.slice L 5 lc) := HasO.cell (i := 3) h.zb rfl
  have fc0 : w.cell? ⟨Fb, 1, none⟩ = some (.slice none 0 0) := HasO.cell (i := 1) h.fb rfl
  clear h
  go_enter Try.func149, Try.ntmps149
  go_upto_region 3 with fail
  have Q1 := Lib.hid (show Holds w [(Zb, 0, .int .i64 5), (Zb, 1, .int .i64 5), (Zb, 2, .int .i64 100), (Zb, 3, .slice L 5 lc), (Fb, 1, .slice none 0 0)] from (.cons zz (zc0) (.cons zz (zc1) (.cons zz (zc2) (.cons zz (zc3) (.cons zf (fc0) (.nil _)))))))
  go_region_held3 (fun W' => W'.cell? ⟨Zb, 0, none⟩ = some (.int .i64 5) ∧ W'.cell? ⟨Zb, 1, none⟩ = some (.int .i64 5) ∧ W'.cell? ⟨Zb, 2, none⟩ = some (.int .i64 100) ∧ W'.cell? ⟨Zb, 3, none⟩ = some (.slice L 5 lc) ∧ W'.cell? ⟨Fb, 1, none⟩ = some (.slice none 0 0))
    (first | with_reducible exact holds5 Q1.out | with_reducible exact holds5 (.drew Q1.out) | with_reducible exact holds5 Q2.out | fail)
    (first | (go_at_call 83; refine (HR.out _ (by first | exact Below.refl _ _ | exact drewB _)).mono ?_; rintro e w1 ⟨⟨A, n, c, rfl, hr⟩, hb⟩; have kb : Below w.heap.size w w1 := (by first | exact below_plain hb | exact below_of_drew hb); have Q2 := Lib.hid (Q1.out.below kb); have HV := Lib.hid hr; have HB := Lib.hid kb; clear hr hb kb; skip))
  go_wp2_with fail
  exact bodyPost_ret (v := .tuple #[.slice A n c, .int .i64 0]) (by simp [results, Try.results149, go_sem]) rfl ⟨⟨A, n, c, rfl, HV.out⟩, HB.out⟩

set_option maxRecDepth 100000 in
set_option maxHeartbeats 8000000 in
theorem before1_2 {L A1 A2 : Option Addr} {lc b1 b2 n2 c1 c2 Pb Zb Fb : Nat} {F0 : Value} {l : List (Int × Int)} {R : List R3} (_hR : refR (fun x y => decide ((x, y) ∈ l)) 5 5 = R) (_hlen : R.length ≤ 8192) (_hbl : inBay l = true) (_hn : l.length ≤ 65536) {w : World} (h : BackB w L A1 A2 lc b1 b2 n2 c1 c2 Pb Zb Fb F0 l) :
    Calls Try.prog 149 #[.int .i64 2, .pointer (some ⟨Pb, 0, none⟩), .pointer (some ⟨Zb, 0, none⟩), .pointer (some ⟨Fb, 0, none⟩)] w fun e w' => (∃ A n c, e = .returned (.tuple #[.slice A n c, .int .i64 0]) ∧ Runs w' (.slice A n c) []) ∧ Below w.heap.size w w' := by
  have pc := HasO.cell (i := 3) h.pb rfl
  clear h
  go_enter Try.func149, Try.ntmps149
  go_wp2_with fail
  refine (clone_none _).mono ?_
  rintro e w1 ⟨rfl, hb⟩
  have HB := Lib.hid hb
  clear hb
  go_wp2_with fail
  exact bodyPost_ret (v := .tuple #[.slice none 0 0, .int .i64 0]) (by simp [results, Try.results149, go_sem]) rfl ⟨⟨none, 0, 0, rfl, Lst.nil _⟩, HB.out⟩
end Go.Proofs.Ytnbdnnbeiohmgaa
