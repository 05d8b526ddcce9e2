/- Near. -/
import Derived.Test.YtnbdnnbeiohmgaaDoorTkCheck
import Derived.Test.YtnbdnnbeiohmgaaDoorTkNear
namespace Go.Proofs.YtnbdnnbeiohmgaaDoor
open Go.RowKit Go.Shelf
open Go.Proofs.Rings (Leg sg)
attribute [local go_sem] Oper.semAt_some

def nearOK (l : List (Int × Int)) (s : Int × Int) (wd : Int) : Bool := checkB l && okS s && withinB wd 0 1048576
/-- what Near answers: whether, and the error -/
def nearB (l : List (Int × Int)) (s : Int × Int) (wd : Int) : Bool := nearOK l s wd && (legsW l).any fun x => nearW x s wd
def nearE (l : List (Int × Int)) (s : Int × Int) (wd : Int) : Int := if nearOK l s wd then 0 else 2
theorem near_no {l : List (Int × Int)} {s : Int × Int} {wd : Int} (h : nearOK l s wd = false) : nearB l s wd = false ∧ nearE l s wd = 2 := by simp [nearB, nearE, h]

theorem Spots_one (w : World) (x y : Int) (t : TypeId) : Spots (w.alloc (.cells #[.int .i64 x, .int .i64 y] t)) (.slice (some ⟨w.heap.size, 0, none⟩) 1 1) [(x, y)] := by
  refine ⟨_, 1, rfl, Nat.le_refl _, by unfold maxLen; omega, fun _ => ⟨w.heap.size, 0, rfl, by simp, fun k s hk => ?_⟩⟩
  have : k = 0 := by
    rcases Nat.eq_zero_or_pos k with h | h
    · exact h
    · rw [List.getElem?_eq_none (by simp <;> omega)] at hk; cases hk
  subst this
  simp at hk
  subst hk
  simp [go_sem]

set_option maxRecDepth 100000 in
set_option maxHeartbeats 4000000 in
theorem near_all (v : Value) (l : List (Int × Int)) (x y wd : Int) (w : World) (h : Spots w v l) :
    Calls Tryd.prog 10 #[v, .agg #[.int .i64 x, .int .i64 y], .int .i64 wd] w fun e w' => e = .returned (.tuple #[.bool (nearB l (x, y) wd), .int .i64 (nearE l (x, y) wd)]) ∧ Below w.heap.size w w' := by
  refine (callsIn_wide (n := 5)).1 ?_
  have hchk := fun (w' : World) (hb : Below w.heap.size w w') => check_tk v l w' (h.below hb)
  obtain ⟨A, c, rfl, h1, h2, h3⟩ := h
  unfold maxLen at h2
  have HV := Lib.hid hchk
  clear hchk
  have hbe : Below w.heap.size w ((((w.alloc (.cells #[.int .i64 x, .int .i64 y] 23)).alloc (.cells #[.int .i64 wd] 3)).alloc (.cells #[.bool false] 4)).alloc (.cells #[.int .i64 0] 28)) :=
    ((((Below.refl _ _).alloc (Nat.le_refl _) _).alloc (by simp) _).alloc (by simp <;> omega) _).alloc (by simp <;> omega) _
  have HBE := Lib.hid hbe
  clear hbe
  cases hc : checkB l with
  | false =>
    have hfin := near_no (l := l) (s := (x, y)) (wd := wd) (by simp [nearOK, hc])
    have HF := Lib.hid hfin
    have hcv := checkV_false hc
    have HC := Lib.hid hcv
    clear hfin hc hcv h3
    refine callsIn_of_wp_marks Tryd.func10 rfl trivial ?_ rfl
    simp only [Tryd.ntmps10, List.size_toArray, List.length_cons, List.length_nil, Nat.reduceAdd, Nat.reduceSub, Array.replicate_succ, Array.replicate_zero, List.push_toArray, List.append_toArray, List.nil_append, List.cons_append]
    refine wpIn_wide.2 ?_
    go_wp2_with fail
    refine (HV.out _ HBE.out).mono ?_
    rintro e w1 ⟨rfl, hb⟩
    rw [HC.out]
    have hc4 := hb.cell (p := ⟨w.heap.size, 0, none⟩) (by simp <;> omega)
    have hc4' := hb.cell (p := ⟨w.heap.size, 1, none⟩) (by simp <;> omega)
    have hc5 := hb.cell (p := ⟨w.heap.size + 1, 0, none⟩) (by simp <;> omega)
    have hc6 := hb.cell (p := ⟨w.heap.size + 1 + 1, 0, none⟩) (by simp)
    have hf6 := hb.frozen (p := ⟨w.heap.size + 1 + 1, 0, none⟩) (by simp)
    have hc7 := hb.cell (p := ⟨w.heap.size + 1 + 1 + 1, 0, none⟩) (by simp)
    have hf7 := hb.frozen (p := ⟨w.heap.size + 1 + 1 + 1, 0, none⟩) (by simp)
    have hz := hb.size
    simp [go_sem] at hc4 hc4' hc5 hc6 hf6 hc7 hf7 hz
    have hbb : Below w.heap.size w w1 := HBE.out.trans (hb.mono (by simp <;> omega))
    clear hb
    go_wp2_with fail
    refine ⟨.tuple #[.bool false, .int .i64 2], by simp [results, Tryd.results10, go_sem, hc6, hc7, hf6, hf7], by rw [HF.out.1, HF.out.2], ?_⟩
    exact (hbb.setCell (p := ⟨w.heap.size + 1 + 1, 0, none⟩) (by simp <;> omega) _).setCell (p := ⟨w.heap.size + 1 + 1 + 1, 0, none⟩) (by simp <;> omega) _
  | true =>
    have hcv := checkV_true hc
    have HC := Lib.hid hcv
    clear hcv
    cases ho : okS (x, y) with
    | false =>
      have hfin := near_no (l := l) (s := (x, y)) (wd := wd) (by simp [nearOK, ho])
      have HF := Lib.hid hfin
      have hov : [(x, y)].all okS = false := by simp [ho]
      have HO := Lib.hid hov
      clear hfin hc hov ho h3
      refine callsIn_of_wp_marks Tryd.func10 rfl trivial ?_ rfl
      simp only [Tryd.ntmps10, List.size_toArray, List.length_cons, List.length_nil, Nat.reduceAdd, Nat.reduceSub, Array.replicate_succ, Array.replicate_zero, List.push_toArray, List.append_toArray, List.nil_append, List.cons_append]
      refine wpIn_wide.2 ?_
      go_wp2_with fail
      refine (HV.out _ HBE.out).mono ?_
      rintro e w1 ⟨rfl, hb⟩
      rw [HC.out]
      have hc4 := hb.cell (p := ⟨w.heap.size, 0, none⟩) (by simp <;> omega)
      have hc4' := hb.cell (p := ⟨w.heap.size, 1, none⟩) (by simp <;> omega)
      have hc5 := hb.cell (p := ⟨w.heap.size + 1, 0, none⟩) (by simp <;> omega)
      have hc6 := hb.cell (p := ⟨w.heap.size + 1 + 1, 0, none⟩) (by simp)
      have hf6 := hb.frozen (p := ⟨w.heap.size + 1 + 1, 0, none⟩) (by simp)
      have hc7 := hb.cell (p := ⟨w.heap.size + 1 + 1 + 1, 0, none⟩) (by simp)
      have hf7 := hb.frozen (p := ⟨w.heap.size + 1 + 1 + 1, 0, none⟩) (by simp)
      have hz := hb.size
      simp [go_sem] at hc4 hc4' hc5 hc6 hf6 hc7 hf7 hz
      have hbb : Below w.heap.size w w1 := HBE.out.trans (hb.mono (by simp <;> omega))
      clear hb
      go_wp2_with fail
      refine (valid_tk _ [(x, y)] _ (Spots_one _ _ _ _)).mono ?_
      rintro e w2 ⟨rfl, hb⟩
      rw [HO.out]
      replace hc4 := (hb.cell (p := ⟨w.heap.size, 0, none⟩) (by simp <;> omega)).trans (cell_alloc_l _ hc4)
      replace hc4' := (hb.cell (p := ⟨w.heap.size, 1, none⟩) (by simp <;> omega)).trans (cell_alloc_l _ hc4')
      replace hc5 := (hb.cell (p := ⟨w.heap.size + 1, 0, none⟩) (by simp <;> omega)).trans (cell_alloc_l _ hc5)
      replace hf6 := (hb.frozen (p := ⟨w.heap.size + 1 + 1, 0, none⟩) (by simp <;> omega)).trans (frozen_alloc_l _ hc6 hf6)
      replace hc6 := (hb.cell (p := ⟨w.heap.size + 1 + 1, 0, none⟩) (by simp <;> omega)).trans (cell_alloc_l _ hc6)
      replace hf7 := (hb.frozen (p := ⟨w.heap.size + 1 + 1 + 1, 0, none⟩) (by simp <;> omega)).trans (frozen_alloc_l _ hc7 hf7)
      replace hc7 := (hb.cell (p := ⟨w.heap.size + 1 + 1 + 1, 0, none⟩) (by simp <;> omega)).trans (cell_alloc_l _ hc7)
      have hz2 := hb.size
      simp at hz2
      replace hbb : Below w.heap.size w w2 := (hbb.alloc (by omega) _).trans (hb.mono (by simp <;> omega))
      replace hz : w.heap.size + 1 + 1 + 1 + 1 ≤ w2.heap.size := by omega
      clear hb hz2
      go_wp2_with fail
      refine ⟨.tuple #[.bool false, .int .i64 2], by simp [results, Tryd.results10, go_sem, hc6, hc7, hf6, hf7], by rw [HF.out.1, HF.out.2], ?_⟩
      exact (hbb.setCell (p := ⟨w.heap.size + 1 + 1, 0, none⟩) (by simp <;> omega) _).setCell (p := ⟨w.heap.size + 1 + 1 + 1, 0, none⟩) (by simp <;> omega) _
    | true =>
      have hov : [(x, y)].all okS = true := by simp [ho]
      have HO := Lib.hid hov
      cases hw : withinB wd 0 1048576 with
      | false =>
        have hfin := near_no (l := l) (s := (x, y)) (wd := wd) (by simp [nearOK, hw])
        have HF := Lib.hid hfin
        have HW := Lib.hid hw
        clear hfin hc hov ho hw h3
        refine callsIn_of_wp_marks Tryd.func10 rfl trivial ?_ rfl
        simp only [Tryd.ntmps10, List.size_toArray, List.length_cons, List.length_nil, Nat.reduceAdd, Nat.reduceSub, Array.replicate_succ, Array.replicate_zero, List.push_toArray, List.append_toArray, List.nil_append, List.cons_append]
        refine wpIn_wide.2 ?_
        go_wp2_with fail
        refine (HV.out _ HBE.out).mono ?_
        rintro e w1 ⟨rfl, hb⟩
        rw [HC.out]
        have hc4 := hb.cell (p := ⟨w.heap.size, 0, none⟩) (by simp <;> omega)
        have hc4' := hb.cell (p := ⟨w.heap.size, 1, none⟩) (by simp <;> omega)
        have hc5 := hb.cell (p := ⟨w.heap.size + 1, 0, none⟩) (by simp <;> omega)
        have hc6 := hb.cell (p := ⟨w.heap.size + 1 + 1, 0, none⟩) (by simp)
        have hf6 := hb.frozen (p := ⟨w.heap.size + 1 + 1, 0, none⟩) (by simp)
        have hc7 := hb.cell (p := ⟨w.heap.size + 1 + 1 + 1, 0, none⟩) (by simp)
        have hf7 := hb.frozen (p := ⟨w.heap.size + 1 + 1 + 1, 0, none⟩) (by simp)
        have hz := hb.size
        simp [go_sem] at hc4 hc4' hc5 hc6 hf6 hc7 hf7 hz
        have hbb : Below w.heap.size w w1 := HBE.out.trans (hb.mono (by simp <;> omega))
        clear hb
        go_wp2_with fail
        refine (valid_tk _ [(x, y)] _ (Spots_one _ _ _ _)).mono ?_
        rintro e w2 ⟨rfl, hb⟩
        rw [HO.out]
        replace hc4 := (hb.cell (p := ⟨w.heap.size, 0, none⟩) (by simp <;> omega)).trans (cell_alloc_l _ hc4)
        replace hc4' := (hb.cell (p := ⟨w.heap.size, 1, none⟩) (by simp <;> omega)).trans (cell_alloc_l _ hc4')
        replace hc5 := (hb.cell (p := ⟨w.heap.size + 1, 0, none⟩) (by simp <;> omega)).trans (cell_alloc_l _ hc5)
        replace hf6 := (hb.frozen (p := ⟨w.heap.size + 1 + 1, 0, none⟩) (by simp <;> omega)).trans (frozen_alloc_l _ hc6 hf6)
        replace hc6 := (hb.cell (p := ⟨w.heap.size + 1 + 1, 0, none⟩) (by simp <;> omega)).trans (cell_alloc_l _ hc6)
        replace hf7 := (hb.frozen (p := ⟨w.heap.size + 1 + 1 + 1, 0, none⟩) (by simp <;> omega)).trans (frozen_alloc_l _ hc7 hf7)
        replace hc7 := (hb.cell (p := ⟨w.heap.size + 1 + 1 + 1, 0, none⟩) (by simp <;> omega)).trans (cell_alloc_l _ hc7)
        have hz2 := hb.size
        simp at hz2
        replace hbb : Below w.heap.size w w2 := (hbb.alloc (by omega) _).trans (hb.mono (by simp <;> omega))
        replace hz : w.heap.size + 1 + 1 + 1 + 1 ≤ w2.heap.size := by omega
        clear hb hz2
        go_wp2_with fail
        refine (within_tk _ _ _ _).mono ?_
        rintro e w' ⟨rfl, rfl⟩
        rw [HW.out]
        go_wp2_with fail
        refine ⟨.tuple #[.bool false, .int .i64 2], by simp [results, Tryd.results10, go_sem, hc6, hc7, hf6, hf7], by rw [HF.out.1, HF.out.2], ?_⟩
        exact (hbb.setCell (p := ⟨w.heap.size + 1 + 1, 0, none⟩) (by simp <;> omega) _).setCell (p := ⟨w.heap.size + 1 + 1 + 1, 0, none⟩) (by simp <;> omega) _
      | true =>
        have hokk : nearOK l (x, y) wd = true := by simp [nearOK, hc, ho, hw]
        have hlen : (2 : Int) ≤ l.length ∧ (l.length : Int) ≤ 1024 := by
          simp only [checkB, Bool.and_eq_true] at hc
          simpa [withinB] using hc.1.1
        obtain ⟨m, hm, hm1, hm2⟩ : ∃ m, l.length = m + 1 ∧ 1 ≤ m ∧ m ≤ 1023 := ⟨l.length - 1, by omega, by omega, by omega⟩
        have hup := legsW_upto l m hm
        obtain ⟨b, off, rfl, hbl, hcc⟩ := h3 (by omega)
        have hcells : ∀ k, k ≤ m → w.cell? ⟨b, off + k * 2, none⟩ = some (.int .i64 (l.getD k default).1) ∧ w.cell? ⟨b, off + k * 2 + 1, none⟩ = some (.int .i64 (l.getD k default).2) := fun k hk =>
          hcc k _ (by simp [List.getD, show k < l.length by omega])
        have HCE := Lib.hid hcells
        have HW := Lib.hid hw
        have HU := Lib.hid hup
        have HM := Lib.hid hm
        have HOK := Lib.hid hokk
        clear hc hov ho hw h3 hup hcc hcells hm hokk
        refine callsIn_of_wp_marks Tryd.func10 rfl trivial ?_ rfl
        simp only [Tryd.ntmps10, List.size_toArray, List.length_cons, List.length_nil, Nat.reduceAdd, Nat.reduceSub, Array.replicate_succ, Array.replicate_zero, List.push_toArray, List.append_toArray, List.nil_append, List.cons_append]
        refine wpIn_wide.2 ?_
        go_wp2_with fail
        refine (HV.out _ HBE.out).mono ?_
        rintro e w1 ⟨rfl, hb⟩
        rw [HC.out]
        have hc4 := hb.cell (p := ⟨w.heap.size, 0, none⟩) (by simp <;> omega)
        have hc4' := hb.cell (p := ⟨w.heap.size, 1, none⟩) (by simp <;> omega)
        have hc5 := hb.cell (p := ⟨w.heap.size + 1, 0, none⟩) (by simp <;> omega)
        have hc6 := hb.cell (p := ⟨w.heap.size + 1 + 1, 0, none⟩) (by simp)
        have hf6 := hb.frozen (p := ⟨w.heap.size + 1 + 1, 0, none⟩) (by simp)
        have hc7 := hb.cell (p := ⟨w.heap.size + 1 + 1 + 1, 0, none⟩) (by simp)
        have hf7 := hb.frozen (p := ⟨w.heap.size + 1 + 1 + 1, 0, none⟩) (by simp)
        have hz := hb.size
        simp [go_sem] at hc4 hc4' hc5 hc6 hf6 hc7 hf7 hz
        have hbb : Below w.heap.size w w1 := HBE.out.trans (hb.mono (by simp <;> omega))
        clear hb
        go_wp2_with fail
        refine (valid_tk _ [(x, y)] _ (Spots_one _ _ _ _)).mono ?_
        rintro e w2 ⟨rfl, hb⟩
        rw [HO.out]
        replace hc4 := (hb.cell (p := ⟨w.heap.size, 0, none⟩) (by simp <;> omega)).trans (cell_alloc_l _ hc4)
        replace hc4' := (hb.cell (p := ⟨w.heap.size, 1, none⟩) (by simp <;> omega)).trans (cell_alloc_l _ hc4')
        replace hc5 := (hb.cell (p := ⟨w.heap.size + 1, 0, none⟩) (by simp <;> omega)).trans (cell_alloc_l _ hc5)
        replace hf6 := (hb.frozen (p := ⟨w.heap.size + 1 + 1, 0, none⟩) (by simp <;> omega)).trans (frozen_alloc_l _ hc6 hf6)
        replace hc6 := (hb.cell (p := ⟨w.heap.size + 1 + 1, 0, none⟩) (by simp <;> omega)).trans (cell_alloc_l _ hc6)
        replace hf7 := (hb.frozen (p := ⟨w.heap.size + 1 + 1 + 1, 0, none⟩) (by simp <;> omega)).trans (frozen_alloc_l _ hc7 hf7)
        replace hc7 := (hb.cell (p := ⟨w.heap.size + 1 + 1 + 1, 0, none⟩) (by simp <;> omega)).trans (cell_alloc_l _ hc7)
        have hz2 := hb.size
        simp at hz2
        replace hbb : Below w.heap.size w w2 := (hbb.alloc (by omega) _).trans (hb.mono (by simp <;> omega))
        replace hz : w.heap.size + 1 + 1 + 1 + 1 ≤ w2.heap.size := by omega
        clear hb hz2
        go_wp2_with fail
        refine (within_tk _ _ _ _).mono ?_
        rintro e w' ⟨rfl, rfl⟩
        rw [HW.out]
        go_wp2_with fail
        refine (legs_tk _ _ _ _).mono ?_
        rintro e w3 ⟨rfl, rfl⟩
        go_wp2_with fail
        refine (wpIn_wide (n := 5)).1 ?_
        rw [HM.out]
        obtain ⟨W0, hW0⟩ : ∃ W0, w2.alloc (.cells #[.slice (some ⟨b, off, none⟩) (m + 1) c] 27) = W0 := ⟨_, rfl⟩
        rw [hW0]
        have pW : W0.heap.size = w2.heap.size + 1 ∧ W0.cell? ⟨w2.heap.size, 0, none⟩ = some (.slice (some ⟨b, off, none⟩) (m + 1) c) ∧ (W0.cell? ⟨w.heap.size, 0, none⟩ = some (.int .i64 x) ∧ W0.cell? ⟨w.heap.size, 1, none⟩ = some (.int .i64 y) ∧ W0.cell? ⟨w.heap.size + 1, 0, none⟩ = some (.int .i64 wd)) ∧
            (W0.cell? ⟨w.heap.size + 1 + 1, 0, none⟩ = some (.bool false) ∧ W0.frozen? ⟨w.heap.size + 1 + 1, 0, none⟩ = false ∧ W0.cell? ⟨w.heap.size + 1 + 1 + 1, 0, none⟩ = some (.int .i64 0) ∧ W0.frozen? ⟨w.heap.size + 1 + 1 + 1, 0, none⟩ = false) ∧ Below w.heap.size w W0 := by
          subst hW0
          exact ⟨by simp, (cell_new_l w2 _ _).1, ⟨cell_alloc_l _ hc4, cell_alloc_l _ hc4', cell_alloc_l _ hc5⟩, ⟨cell_alloc_l _ hc6, frozen_alloc_l _ hc6 hf6, cell_alloc_l _ hc7, frozen_alloc_l _ hc7 hf7⟩, hbb.alloc (by omega) _⟩
        obtain ⟨q1, q2, ⟨q4, q4', q5⟩, ⟨q6, qf6, q7, qf7⟩, q8⟩ := pW
        clear hW0 hc4 hc4' hc5 hc6 hf6 hc7 hf7 hbb
        have qs : w.heap.size + 1 + 1 + 1 + 1 + 1 ≤ W0.heap.size := by omega
        refine wpIn_rangeFunc_ownH rfl (by omega) (gf := 42) (lb := #[.pointer (some ⟨w2.heap.size, 0, none⟩)]) rfl trivial (enters_of Tryd.func42 (by kernel_rfl) rfl)
          (legs_stops 4 (by omega) w2.heap.size b off m c (fun q => q = b ∨ q = w2.heap.size) (.inl rfl) (.inr rfl) (fun i => l.getD i default) hm1 (by have := HM.out; omega) (by omega) W0 (fun q hq => by rcases hq with rfl | rfl <;> omega) q2
            (fun k hk => ⟨(q8.cell (p := ⟨b, off + k * 2, none⟩) hbl).trans (HCE.out k hk).1, (q8.cell (p := ⟨b, off + k * 2 + 1, none⟩) hbl).trans (HCE.out k hk).2⟩))
          (fun h k => KeepB.trans h k) (fun W l' o o' hl _ _ _ => KeepB.putObj (n := W0.heap.size) (fun q hq => by rcases hq with rfl | rfl <;> omega) W l' o' hl) (Below.refl _ _) (fun _ => rfl)
          (fun pre W => (∀ z ∈ pre, nearW z (x, y) wd = false) ∧ Below W0.heap.size W0 W)
          (fun c pre W => ((c = .ret ∧ ∃ z ∈ pre, nearW z (x, y) wd = true) ∧ W.cell? ⟨w.heap.size + 1 + 1, 0, none⟩ = some (.bool true) ∧ W.cell? ⟨w.heap.size + 1 + 1 + 1, 0, none⟩ = some (.int .i64 0)) ∧ Below w.heap.size w W)
          (OwnFrom.and (ownFrom_pure _ _) (ownFrom_below (Nat.le_refl _) (Nat.le_refl _)))
          (fun c => OwnFrom.and (Own.from (fun s A B row hs hg hr => ⟨hs.1, cell_kept hs.2.1 hg hr, cell_kept hs.2.2 hg hr⟩) _) (ownFrom_below (Nat.le_refl _) (by omega)))
          ⟨by simp, Below.refl _ _⟩
          (fun z a' W => ∃ Bx, (W.cell? ⟨Bx, 0, none⟩ = some (.int .i64 z.fx) ∧ W.cell? ⟨Bx, 1, none⟩ = some (.int .i64 z.fy) ∧ W.cell? ⟨Bx, 2, none⟩ = some (.int .i64 z.wx) ∧ W.cell? ⟨Bx, 3, none⟩ = some (.int .i64 z.wy) ∧ W.cell? ⟨Bx, 4, none⟩ = some (.int .i64 z.far)) ∧
            a' = { tmps := #[.slice (some ⟨b, off, none⟩) (m + 1) c, .agg #[.int .i64 x, .int .i64 y], .int .i64 wd, undef, .pointer (some ⟨w.heap.size, 0, none⟩), .pointer (some ⟨w.heap.size + 1, 0, none⟩), .pointer (some ⟨w.heap.size + 1 + 1, 0, none⟩), .pointer (some ⟨w.heap.size + 1 + 1 + 1, 0, none⟩), .pointer (some ⟨Bx, 0, none⟩), .slice (some ⟨b, off, none⟩) (m + 1) c, .int .i64 0, .bool false, .bool false, .agg #[.int .i64 x, .int .i64 y], .slice (some ⟨w1.heap.size, 0, none⟩) 1 1, .bool true, .bool false, .bool false, .bool false, .int .i64 wd, .bool true, .bool false, .bool false, .slice (some ⟨b, off, none⟩) (m + 1) c, .func (.func 42) #[] #[.pointer (some ⟨w2.heap.size, 0, none⟩)], encLeg z, undef, undef, undef, undef], defers := [] })
          (fun z a' => Own.from (fun s A B row hs hg hr => by obtain ⟨Bx, h, e⟩ := hs; exact ⟨Bx, ⟨cell_kept h.1 hg hr, cell_kept h.2.1 hg hr, cell_kept h.2.2.1 hg hr, cell_kept h.2.2.2.1 hg hr, cell_kept h.2.2.2.2 hg hr⟩, e⟩) _)
          ?assign ?body ?done ?stop
        case assign =>
          rintro l' pre z W K ⟨hp, hB⟩ hK
          obtain ⟨fx, fy, wx, wy, far⟩ := z
          dsimp only [encLeg]
          have hS0 := hB.size
          have hK' := hK { tmps := #[.slice (some ⟨b, off, none⟩) (m + 1) c, .agg #[.int .i64 x, .int .i64 y], .int .i64 wd, undef, .pointer (some ⟨w.heap.size, 0, none⟩), .pointer (some ⟨w.heap.size + 1, 0, none⟩), .pointer (some ⟨w.heap.size + 1 + 1, 0, none⟩), .pointer (some ⟨w.heap.size + 1 + 1 + 1, 0, none⟩), .pointer (some ⟨W.heap.size, 0, none⟩), .slice (some ⟨b, off, none⟩) (m + 1) c, .int .i64 0, .bool false, .bool false, .agg #[.int .i64 x, .int .i64 y], .slice (some ⟨w1.heap.size, 0, none⟩) 1 1, .bool true, .bool false, .bool false, .bool false, .int .i64 wd, .bool true, .bool false, .bool false, .slice (some ⟨b, off, none⟩) (m + 1) c, .func (.func 42) #[] #[.pointer (some ⟨w2.heap.size, 0, none⟩)], .agg #[.int .i64 fx, .int .i64 fy, .int .i64 wx, .int .i64 wy, .int .i64 far], undef, undef, undef, undef], defers := [] }
            (W.alloc (.cells #[.int .i64 fx, .int .i64 fy, .int .i64 wx, .int .i64 wy, .int .i64 far] 68)) ((KeepsOthers.alloc _ _).from _) (KeepB.below ((Below.refl _ _).alloc (Nat.le_refl _) _) (fun q hq => by rcases hq with rfl | rfl <;> omega))
            ⟨hp, hB.alloc hB.size _⟩ ⟨W.heap.size, by simp [go_sem], rfl⟩
          have HK := Lib.hid hK'
          clear hK hK'
          gi_wp2
          exact HK.out
        case body =>
          rintro l' pre z a' W hl ⟨r, hr⟩ ⟨hp, hB⟩ ⟨Bx, ⟨x0, x1, x2, x3, x4⟩, rfl⟩ hlt
          have hS0 := hB.size
          have p4 := (hB.cell (p := ⟨w.heap.size, 0, none⟩) (by simp <;> omega)).trans q4
          have p4' := (hB.cell (p := ⟨w.heap.size, 1, none⟩) (by simp <;> omega)).trans q4'
          have p5 := (hB.cell (p := ⟨w.heap.size + 1, 0, none⟩) (by simp <;> omega)).trans q5
          have p6 := (hB.cell (p := ⟨w.heap.size + 1 + 1, 0, none⟩) (by simp <;> omega)).trans q6
          have pf6 := (hB.frozen (p := ⟨w.heap.size + 1 + 1, 0, none⟩) (by simp <;> omega)).trans qf6
          have p7 := (hB.cell (p := ⟨w.heap.size + 1 + 1 + 1, 0, none⟩) (by simp <;> omega)).trans q7
          have pf7 := (hB.frozen (p := ⟨w.heap.size + 1 + 1 + 1, 0, none⟩) (by simp <;> omega)).trans qf7
          have hcall := near_tk z x y wd W
          cases hz : nearW z (x, y) wd with
          | true =>
            rw [hz] at hcall
            have HC2 := Lib.hid hcall
            have HZ := Lib.hid hz
            clear hcall hz q4 q4' q5 q6 qf6 q7 qf7
            gi_wp2_with fail
            refine ⟨trivial, (CallsIn.inRound l' (callsIn_wide.2 HC2.out)).mono ?_⟩
            rintro e w4 ⟨rfl, hb⟩
            replace p6 := (hb.cell (p := ⟨w.heap.size + 1 + 1, 0, none⟩) (by simp <;> omega)).trans p6
            replace pf6 := (hb.frozen (p := ⟨w.heap.size + 1 + 1, 0, none⟩) (by simp <;> omega)).trans pf6
            replace p7 := (hb.cell (p := ⟨w.heap.size + 1 + 1 + 1, 0, none⟩) (by simp <;> omega)).trans p7
            replace pf7 := (hb.frozen (p := ⟨w.heap.size + 1 + 1 + 1, 0, none⟩) (by simp <;> omega)).trans pf7
            have hs4 := hb.size
            have hbw : Below w.heap.size w w4 := (q8.trans (hB.mono q8.size)).trans (hb.mono (by omega))
            gi_wp2_with fail
            refine ⟨?_, ⟨⟨rfl, z, List.mem_append.2 (.inr (by simp)), HZ.out⟩, ?_, ?_⟩, ?_⟩
            · exact (KeepsFrom.trans ⟨hb.size, fun k o _ hk _ => (hb.block k (Array.getElem?_eq_some_iff.1 hk).1).trans hk⟩ ((KeepsOthers.setCell _ _ _).from _)).trans ((KeepsOthers.setCell _ _ _).from _)
            · exact (World.cell?_setCell_other _ _ _ _ (by simp)).trans (World.cell?_setCell_same' _ _ _ (by rw [p6]; rfl))
            · exact World.cell?_setCell_same' _ _ _ (by rw [World.cell?_setCell_other _ _ _ _ (by simp), p7]; rfl)
            · exact (hbw.setCell (p := ⟨w.heap.size + 1 + 1, 0, none⟩) (by simp <;> omega) _).setCell (p := ⟨w.heap.size + 1 + 1 + 1, 0, none⟩) (by simp <;> omega) _
          | false =>
            rw [hz] at hcall
            have HC2 := Lib.hid hcall
            have HZ := Lib.hid hz
            clear hcall hz q4 q4' q5 q6 qf6 q7 qf7
            gi_wp2_with fail
            refine ⟨trivial, (CallsIn.inRound l' (callsIn_wide.2 HC2.out)).mono ?_⟩
            rintro e w4 ⟨rfl, hb⟩
            have hs4 := hb.size
            gi_wp2_with fail
            refine ⟨⟨hb.size, fun k o _ hk _ => (hb.block k (Array.getElem?_eq_some_iff.1 hk).1).trans hk⟩, KeepB.below hb (fun q hq => by rcases hq with rfl | rfl <;> omega), ?_, hB.trans (hb.mono hS0)⟩
            exact fun z' hz' => (List.mem_append.1 hz').elim (hp z') (fun e => by simp at e; subst e; exact HZ.out)
        case done =>
          rintro D ys W hD rfl ⟨hne, hB⟩ hK
          have hS0 := hB.size
          have hfin : nearB l (x, y) wd = false ∧ nearE l (x, y) wd = 0 := by
            refine ⟨?_, by simp [nearE, HOK.out]⟩
            rw [nearB, HOK.out, HU.out, Bool.true_and, List.any_eq_false]
            exact fun z hz => by simp [hne z hz]
          have HF := Lib.hid hfin
          have p6 := (hB.cell (p := ⟨w.heap.size + 1 + 1, 0, none⟩) (by simp <;> omega)).trans q6
          have pf6 := (hB.frozen (p := ⟨w.heap.size + 1 + 1, 0, none⟩) (by simp <;> omega)).trans qf6
          have p7 := (hB.cell (p := ⟨w.heap.size + 1 + 1 + 1, 0, none⟩) (by simp <;> omega)).trans q7
          have pf7 := (hB.frozen (p := ⟨w.heap.size + 1 + 1 + 1, 0, none⟩) (by simp <;> omega)).trans qf7
          have hbw : Below w.heap.size w W := q8.trans (hB.mono q8.size)
          clear hfin hne q4 q4' q5 q6 qf6 q7 qf7
          go_wp2_with fail
          obtain ⟨W5, hW5⟩ : ∃ W5, (W.setCell ⟨w.heap.size + 1 + 1, 0, none⟩ (.bool false)).setCell ⟨w.heap.size + 1 + 1 + 1, 0, none⟩ (.int .i64 0) = W5 := ⟨_, rfl⟩
          have c6 : W5.cell? ⟨w.heap.size + 1 + 1, 0, none⟩ = some (.bool false) := by
            rw [← hW5]; exact (World.cell?_setCell_other _ _ _ _ (by simp)).trans (World.cell?_setCell_same' _ _ _ (by rw [p6]; rfl))
          have c7 : W5.cell? ⟨w.heap.size + 1 + 1 + 1, 0, none⟩ = some (.int .i64 0) := by
            rw [← hW5]; exact World.cell?_setCell_same' _ _ _ (by rw [World.cell?_setCell_other _ _ _ _ (by simp), p7]; rfl)
          have hK' : W5.heap[D]? = some (.deferred (some [])) := by
            rw [← hW5]; exact ((KeepsOthers.setCell _ _ _).trans (KeepsOthers.setCell _ _ _)).same D _ hK rfl
          have hbw5 : Below w.heap.size w W5 := by
            rw [← hW5]; exact (hbw.setCell (p := ⟨w.heap.size + 1 + 1, 0, none⟩) (by simp <;> omega) _).setCell (p := ⟨w.heap.size + 1 + 1 + 1, 0, none⟩) (by simp <;> omega) _
          rw [hW5]
          clear hW5 hK hbw p6 pf6 p7 pf7
          refine ⟨by simp, .inl ⟨_, _, rfl, run_takeDeferred hK', ?_⟩⟩
          have d6 := cell_kept c6 (grownBy_putObj' _ D (.deferred none)) (fun r e => by cases e; exact ⟨_, hK', rfl⟩)
          have d7 := cell_kept c7 (grownBy_putObj' _ D (.deferred none)) (fun r e => by cases e; exact ⟨_, hK', rfl⟩)
          refine ⟨.tuple #[.bool false, .int .i64 0], by simp [results, Tryd.results10, go_sem, d6, d7], by rw [HF.out.1, HF.out.2], hbw5.trans (belowK_b (w := w) (Nat.le_refl _) W5 D _ _ (by omega) hK' rfl rfl)⟩
        case stop =>
          rintro D c' pre W hD ⟨k, hk, rfl⟩ ⟨⟨⟨rfl, z, hz, hnz⟩, hc6, hc7⟩, hB⟩ hK
          have hfin : nearB l (x, y) wd = true ∧ nearE l (x, y) wd = 0 := by
            refine ⟨?_, by simp [nearE, HOK.out]⟩
            rw [nearB, HOK.out, HU.out, Bool.true_and, List.any_eq_true]
            refine ⟨z, ?_, hnz⟩
            simp only [uptoL, List.mem_map, List.mem_range] at hz ⊢
            obtain ⟨i, hi, e⟩ := hz
            exact ⟨i, by omega, e⟩
          have HF := Lib.hid hfin
          clear hfin hz hnz q4 q4' q5 q6 qf6 q7 qf7
          refine wpIn_wide.2 ?_
          go_wp2_with fail
          refine ⟨by simp, .inl ⟨_, _, rfl, run_takeDeferred hK, ?_⟩⟩
          have d6 := cell_kept hc6 (grownBy_putObj' _ D (.deferred none)) (fun r e => by cases e; exact ⟨_, hK, rfl⟩)
          have d7 := cell_kept hc7 (grownBy_putObj' _ D (.deferred none)) (fun r e => by cases e; exact ⟨_, hK, rfl⟩)
          refine ⟨.tuple #[.bool true, .int .i64 0], by simp [results, Tryd.results10, go_sem, d6, d7], by rw [HF.out.1, HF.out.2], hB.trans (belowK_b (w := w) (Nat.le_refl _) W D _ _ (by omega) hK rfl rfl)⟩
end Go.Proofs.YtnbdnnbeiohmgaaDoor
