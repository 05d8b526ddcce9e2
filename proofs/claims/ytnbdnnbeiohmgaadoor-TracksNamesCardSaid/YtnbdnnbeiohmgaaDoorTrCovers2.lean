/- tracks.Covers, refused. -/
import Derived.Test.YtnbdnnbeiohmgaaDoorTkA
import Derived.Test.YtnbdnnbeiohmgaaDoorTrCovers1
import Derived.Test.YtnbdnnbeiohmgaaDoorTrRegion
import Derived.Test.YtnbdnnbeiohmgaaDoorMapA
namespace Go.Proofs.YtnbdnnbeiohmgaaDoor
open Go.RowKit Go.Shelf
attribute [local go_sem] Oper.semAt_some

def coversOK (W H S : Int) (ld : List R3) (l : List (Int × Int)) (wd : Int) : Bool := checkG W H S ld && checkB l && withinB wd 0 1048576

set_option maxRecDepth 100000 in
set_option maxHeartbeats 4000000 in
theorem covers_bad (W H S wd : Int) (vL v : Value) (ld : List R3) (l : List (Int × Int)) (w : World) (hL : Runs w vL ld) (h : Spots w v l) (hbad : coversOK W H S ld l wd = false) :
    Calls Tryd.prog 15 #[.agg #[.int .i64 W, .int .i64 H, .int .i64 S, vL], v, .int .i64 wd] w fun e w' => e = .returned (.tuple #[.slice none 0 0, .int .i64 2]) ∧ Below w.heap.size w w' := by
  refine (callsIn_wide (n := 5)).1 ?_
  have hchk := fun (w' : World) (hb : Below w.heap.size w w') => check_tk v l w' (h.below hb)
  obtain ⟨A, c, rfl, h1, h2, h3⟩ := h
  unfold maxLen at h2
  have HV := Lib.hid hchk
  clear hchk h3
  have hbe : Below w.heap.size w ((w.alloc (.cells #[.int .i64 W, .int .i64 H, .int .i64 S, vL] 37)).alloc (.cells #[.int .i64 wd] 3)) :=
    ((Below.refl _ _).alloc (Nat.le_refl _) _).alloc (by simp) _
  have hcg := checkGrid_gr W H S vL ld _ (hL.below hbe)
  have HG := Lib.hid hcg
  have HBE := Lib.hid hbe
  have HB := Lib.hid hbad
  clear hbe hcg hL hbad
  refine callsIn_of_wp_marks Tryd.func15 rfl trivial ?_ rfl
  simp only [Tryd.ntmps15, List.size_toArray, List.length_cons, List.length_nil, Nat.reduceAdd, Nat.reduceSub, Array.replicate_succ, Array.replicate_zero, List.push_toArray, List.append_toArray, List.nil_append, List.cons_append]
  refine wpIn_wide.2 ?_
  go_wp2_with fail
  refine HG.out.mono ?_
  rintro e w1 ⟨rfl, hb⟩
  have c5 := hb.cell (p := ⟨w.heap.size + 1, 0, none⟩) (by simp)
  simp [go_sem] at c5
  have hbb : Below w.heap.size w w1 := HBE.out.trans (hb.mono (by simp <;> omega))
  have hz := hb.size
  simp at hz
  clear hb
  obtain ⟨g, hg⟩ : ∃ g, checkG W H S ld = g := ⟨_, rfl⟩
  rw [hg]
  cases g with
  | false =>
    rw [argE_false]
    go_wp2_with fail
    refine ⟨.tuple #[.slice none 0 0, .int .i64 2], by simp [results, Tryd.results15, go_sem], rfl, hbb⟩
  | true =>
    rw [argE_true]
    go_wp2_with fail
    refine (HV.out _ hbb).mono ?_
    rintro e w2 ⟨rfl, hb⟩
    have c5 := (hb.cell (p := ⟨w.heap.size + 1, 0, none⟩) (by show w.heap.size + 1 < w1.heap.size; omega)).trans c5
    have hbb := hbb.trans (hb.mono (by omega))
    clear hb
    obtain ⟨t, ht⟩ : ∃ t, checkB l = t := ⟨_, rfl⟩
    cases t with
    | false =>
      rw [checkV_false ht]
      go_wp2_with fail
      refine ⟨.tuple #[.slice none 0 0, .int .i64 2], by simp [results, Tryd.results15, go_sem], rfl, hbb⟩
    | true =>
      rw [checkV_true ht]
      go_wp2_with fail
      refine (within_tk _ _ _ _).mono ?_
      rintro e w' ⟨rfl, rfl⟩
      have hw : withinB wd 0 1048576 = false := by
        have := HB.out
        rw [coversOK, hg, ht] at this
        simpa using this
      rw [hw]
      go_wp2_with fail
      refine ⟨.tuple #[.slice none 0 0, .int .i64 2], by simp [results, Tryd.results15, go_sem], rfl, hbb⟩
end Go.Proofs.YtnbdnnbeiohmgaaDoor
