/- grid.CheckGrid, grid.checked. -/
import Derived.Test.YtnbdnnbeiohmgaaGrRight
namespace Go.Proofs.Ytnbdnnbeiohmgaa
open Go.RowKit Go.Shelf Go.Lib

def checkG (W H S : Int) (ld : List R3) : Bool := inB W 1 256 && inB H 1 256 && inB S 1 50000 && rightB W H ld
/-- OK or ErrArg -/
def argE (b : Bool) : Int := if b then 0 else 2
theorem argE_true : argE true = 0 := rfl
theorem argE_false : argE false = 2 := rfl

theorem inB_iff {n lo hi : Int} (h : inB n lo hi = true) : lo ≤ n ∧ n ≤ hi := by
  simp [inB] at h
  exact h

set_option maxHeartbeats 1000000 in
theorem checkGrid_gr (W H S : Int) (vL : Value) (ld : List R3) (w : World) (h : Runs w vL ld) :
    Calls Try.prog 59 #[.agg #[.int .i64 W, .int .i64 H, .int .i64 S, vL]] w fun e w' => e = .returned (.int .i64 (argE (checkG W H S ld))) ∧ Below w.heap.size w w' := by
  have b1 := (Below.refl w.heap.size w).alloc (Nat.le_refl _) (.cells #[.int .i64 W, .int .i64 H, .int .i64 S, vL] 24)
  have h1 : Runs (w.alloc (.cells #[.int .i64 W, .int .i64 H, .int .i64 S, vL] 24)) vL ld := h.alloc _
  go_enter Try.func59, Try.ntmps59
  go_wp2_with fail
  refine (within_gr _ _ _ _).mono ?_
  rintro e w' ⟨rfl, rfl⟩
  cases k1 : inB W 1 256 with
  | false =>
    go_wp2_with fail
    go_ret
    exact ⟨retOf (congrArg (Value.int .i64) (by simp [checkG, k1, argE])), b1⟩
  | true =>
    go_wp2_with fail
    refine (within_gr _ _ _ _).mono ?_
    rintro e w' ⟨rfl, rfl⟩
    cases k2 : inB H 1 256 with
    | false =>
      go_wp2_with fail
      go_ret
      exact ⟨retOf (congrArg (Value.int .i64) (by simp [checkG, k1, k2, argE])), b1⟩
    | true =>
      go_wp2_with fail
      refine (within_gr _ _ _ _).mono ?_
      rintro e w' ⟨rfl, rfl⟩
      cases k3 : inB S 1 50000 with
      | false =>
        go_wp2_with fail
        go_ret
        exact ⟨retOf (congrArg (Value.int .i64) (by simp [checkG, k1, k2, k3, argE])), b1⟩
      | true =>
        have hr := right_gr W H S vL vL ld _ (inB_iff k2) h1
        have HR := Lib.hid hr
        clear hr h h1
        go_wp2_with fail
        refine HR.out.mono ?_
        rintro e w1 ⟨rfl, hb1⟩
        have b2 := b1.trans (hb1.mono (by simp))
        cases k4 : rightB W H ld with
        | false =>
          go_wp2_with fail
          go_ret
          exact ⟨retOf (congrArg (Value.int .i64) (by simp [checkG, k1, k2, k3, k4, argE])), b2⟩
        | true =>
          go_wp2_with fail
          go_ret
          exact ⟨retOf (congrArg (Value.int .i64) (by simp [checkG, k1, k2, k3, k4, argE])), b2⟩

abbrev enc1 : Value → List Value := fun u => [u]

theorem checked1_gr (W H S : Int) (vL v : Value) (l : List R3) (B : Nat) (w : World) (hH : 1 ≤ H ∧ H ≤ 256) (hB : B < w.heap.size) (c0 : w.cell? ⟨B, 0, none⟩ = some (.int .i64 W)) (c1 : w.cell? ⟨B, 1, none⟩ = some (.int .i64 H))
    (c2 : w.cell? ⟨B, 2, none⟩ = some (.int .i64 S)) (c3 : w.cell? ⟨B, 3, none⟩ = some vL) (h : Runs w v l) :
    Calls Try.prog 103 #[v, .pointer (some ⟨B, 0, none⟩)] w fun e w' => e = .returned (.bool (!rightB W H l)) ∧ Below w.heap.size w w' := by
  have hr := right_gr W H S vL v l w hH h
  have HR := Lib.hid hr
  obtain ⟨A, c, rfl, -⟩ := h
  clear hr
  go_enter Try.func103, Try.ntmps103
  go_wp2_with fail
  refine HR.out.mono ?_
  rintro e w1 ⟨rfl, hb1⟩
  go_wp2_with fail
  go_ret
  exact ⟨rfl, hb1⟩

set_option maxHeartbeats 1000000 in
theorem index_regions (W H S : Int) (vL v : Value) (vs : List Value) (ls : List (List R3)) (B : Nat) (w : World) (hH : 1 ≤ H ∧ H ≤ 256) (hB : B < w.heap.size) (c0 : w.cell? ⟨B, 0, none⟩ = some (.int .i64 W)) (c1 : w.cell? ⟨B, 1, none⟩ = some (.int .i64 H))
    (c2 : w.cell? ⟨B, 2, none⟩ = some (.int .i64 S)) (c3 : w.cell? ⟨B, 3, none⟩ = some vL) (h : Lst 1 enc1 w v vs) (hl : vs.length = ls.length) (hrs : ∀ (i : Nat) u l, vs[i]? = some u → ls[i]? = some l → Runs w u l) :
    Calls Try.prog 152 #[v, .func (.func 103) #[] #[.pointer (some ⟨B, 0, none⟩)]] w fun e w' =>
      (∃ i : Int, e = .returned (.int .i64 i) ∧ (0 ≤ i ↔ ls.any (fun l => !rightB W H l) = true)) ∧ Below w.heap.size w w' := by
  obtain ⟨A, c, rfl, h1, h2, h3⟩ := h
  unfold maxLen at h2
  have HLn := Lib.hid hl
  clear hl
  go_enter Try.func152, Try.ntmps152
  go_wp2_with fail
  go_loopw [8] (fun i wr => ∃ k : Nat, k ≤ vs.length ∧ i = .int .i64 k ∧ Below w.heap.size w wr ∧ Hid (∀ j, j < k → ∀ l, ls[j]? = some l → rightB W H l = true)) (fun i _ => vs.length - (intOf i).toNat)
  case atStart => exact ⟨0, Nat.zero_le _, rfl, Below.refl _ _, fun j hj => by omega⟩
  case round =>
    obtain ⟨k, hk, rfl, hb, hA⟩ := hrel
    by_cases hlt : k < vs.length
    · obtain ⟨b, off, rfl, hbl, hc⟩ := h3 (by omega)
      obtain ⟨u, hu⟩ : ∃ s, vs[k]? = some s := ⟨_, List.getElem?_eq_getElem hlt⟩
      obtain ⟨l, hlk⟩ : ∃ s, ls[k]? = some s := ⟨_, List.getElem?_eq_getElem (by have := HLn.out; omega)⟩
      have hru := (hrs k u l hu hlk).below hb
      have hx := (hb.cell (p := ⟨b, off + k * 1 + 0, none⟩) hbl).trans (hc k 0 u u hu rfl)
      simp only [Nat.mul_one, Nat.add_zero] at hx
      have hcall := checked1_gr W H S vL u l B wr hH (Nat.lt_of_lt_of_le hB hb.size) ((hb.cell (p := ⟨B, 0, none⟩) hB).trans c0) ((hb.cell (p := ⟨B, 1, none⟩) hB).trans c1) ((hb.cell (p := ⟨B, 2, none⟩) hB).trans c2) ((hb.cell (p := ⟨B, 3, none⟩) hB).trans c3) hru
      obtain ⟨Au, cu, rfl, -⟩ := hru
      have HS := Lib.hid hlk
      have HR := Lib.hid hrs
      clear hlk hu hc h3 hrs
      cases hok : rightB W H l with
      | true =>
        rw [hok] at hcall
        have HC := Lib.hid hcall
        have HO := Lib.hid hok
        clear hcall hok
        go_wp2_with fail
        refine HC.out.mono ?_
        rintro e w1 ⟨rfl, hb1⟩
        go_wp2_with fail
        go_roundw
        case rel => exact ⟨k + 1, by omega, by go_num, hb.trans (hb1.mono hb.size), fun j hj s hs => by
          by_cases e : j = k
          · subst e; rw [HS.out] at hs; cases hs; exact HO.out
          · exact hA.out j (by omega) s hs⟩
        case measure => simp [intOf]; omega
      | false =>
        rw [hok] at hcall
        have HC := Lib.hid hcall
        have HO := Lib.hid hok
        clear hcall hok
        go_wp2_with fail
        refine HC.out.mono ?_
        rintro e w1 ⟨rfl, hb1⟩
        go_wp2_with fail
        go_ret
        refine ⟨⟨k, rfl, ?_⟩, hb.trans (hb1.mono hb.size)⟩
        have hm : l ∈ ls := List.mem_of_getElem? HS.out
        have : ls.any (fun l => !rightB W H l) = true := List.any_eq_true.2 ⟨_, hm, by rw [HO.out]; rfl⟩
        simp [this]
    · have hke : k = vs.length := by omega
      subst hke
      have HR := Lib.hid hrs
      clear hrs
      go_wp2_with fail
      go_ret
      refine ⟨⟨-1, rfl, ?_⟩, hb⟩
      have : ls.any (fun l => !rightB W H l) = false := by
        rw [List.any_eq_false]
        intro s hs
        obtain ⟨j, hj, e⟩ := List.getElem_of_mem hs
        have := hA.out j (by have := HLn.out; omega) s (by rw [List.getElem?_eq_getElem hj, e])
        simp [this]
      simp [this]

set_option maxRecDepth 100000 in
set_option maxHeartbeats 1000000 in
theorem contains_regions (W H S : Int) (vL v : Value) (vs : List Value) (ls : List (List R3)) (B : Nat) (w : World) (hH : 1 ≤ H ∧ H ≤ 256) (hB : B < w.heap.size) (c0 : w.cell? ⟨B, 0, none⟩ = some (.int .i64 W)) (c1 : w.cell? ⟨B, 1, none⟩ = some (.int .i64 H))
    (c2 : w.cell? ⟨B, 2, none⟩ = some (.int .i64 S)) (c3 : w.cell? ⟨B, 3, none⟩ = some vL) (h : Lst 1 enc1 w v vs) (hl : vs.length = ls.length) (hrs : ∀ (i : Nat) u l, vs[i]? = some u → ls[i]? = some l → Runs w u l) :
    Calls Try.prog 102 #[v, .func (.func 103) #[] #[.pointer (some ⟨B, 0, none⟩)]] w fun e w' => e = .returned (.bool (!ls.all (rightB W H))) ∧ Below w.heap.size w w' := by
  have hi := index_regions W H S vL v vs ls B w hH hB c0 c1 c2 c3 h hl hrs
  obtain ⟨A, c, rfl, -⟩ := h
  have HI := Lib.hid hi
  clear hi hrs hl c0 c1 c2 c3 hB hH
  go_enter Try.func102, Try.ntmps102
  go_wp2_with fail
  refine HI.out.mono ?_
  rintro e w1 ⟨⟨i, rfl, hi⟩, hb⟩
  have HI2 := Lib.hid hi
  clear hi
  go_wp2_with fail
  go_ret
  refine ⟨retOf ?_, hb⟩
  congr 1
  have e1 : (!ls.all (rightB W H)) = ls.any (fun l => !rightB W H l) := by rw [List.not_all_eq_any_not]
  rw [e1]
  cases hq : ls.any (fun l => !rightB W H l) with
  | true => simp [HI2.out.2 hq]
  | false =>
    have : ¬ 0 ≤ i := fun h0 => by rw [HI2.out.1 h0] at hq; cases hq
    simp [this]

def checkRs (W H S : Int) (ld : List R3) (ls : List (List R3)) : Bool := checkG W H S ld && ls.all (rightB W H)

set_option maxRecDepth 100000 in
set_option maxHeartbeats 1000000 in
theorem checked_gr (W H S : Int) (vL v : Value) (ld : List R3) (vs : List Value) (ls : List (List R3)) (w : World) (hL : Runs w vL ld) (h : Lst 1 enc1 w v vs) (hl : vs.length = ls.length) (hrs : ∀ (i : Nat) u l, vs[i]? = some u → ls[i]? = some l → Runs w u l) :
    Calls Try.prog 51 #[.agg #[.int .i64 W, .int .i64 H, .int .i64 S, vL], v] w fun e w' => e = .returned (.int .i64 (argE (checkRs W H S ld ls))) ∧ Below w.heap.size w w' := by
  have b1 := (Below.refl w.heap.size w).alloc (Nat.le_refl _) (.cells #[.int .i64 W, .int .i64 H, .int .i64 S, vL] 24)
  have hG := checkGrid_gr W H S vL ld (w.alloc (.cells #[.int .i64 W, .int .i64 H, .int .i64 S, vL] 24)) (hL.alloc _)
  have HG := Lib.hid hG
  have HV := Lib.hid h
  have HR := Lib.hid hrs
  obtain ⟨A, c, rfl, -⟩ := h
  have HLn := Lib.hid hl
  clear hG hrs hL hl
  go_enter Try.func51, Try.ntmps51
  go_wp2_with fail
  refine HG.out.mono ?_
  rintro e w1 ⟨rfl, hb1⟩
  have b2 := b1.trans (hb1.mono (by simp))
  have c0 := hb1.cell (p := ⟨w.heap.size, 0, none⟩) (by simp)
  have c1 := hb1.cell (p := ⟨w.heap.size, 1, none⟩) (by simp)
  have c2 := hb1.cell (p := ⟨w.heap.size, 2, none⟩) (by simp)
  have c3 := hb1.cell (p := ⟨w.heap.size, 3, none⟩) (by simp)
  have hz := hb1.size
  simp [go_sem] at c0 c1 c2 c3 hz
  cases k1 : checkG W H S ld with
  | false =>
    rw [argE_false]
    go_wp2_with fail
    go_ret
    exact ⟨retOf (congrArg (Value.int .i64) (by simp [checkRs, k1, argE])), b2⟩
  | true =>
    rw [argE_true]
    have hH : 1 ≤ H ∧ H ≤ 256 := by
      simp only [checkG, Bool.and_eq_true] at k1
      exact inB_iff k1.1.1.2
    have hc := contains_regions W H S vL _ vs ls w.heap.size w1 hH (by omega) c0 c1 c2 c3 (HV.out.below b2) HLn.out (fun i u l hu hl => (HR.out i u l hu hl).below b2)
    have HC := Lib.hid hc
    clear hc hb1
    go_wp2_with fail
    refine HC.out.mono ?_
    rintro e w2 ⟨rfl, hb2⟩
    have b3 := b2.trans (hb2.mono (by omega))
    cases k2 : ls.all (rightB W H) with
    | false =>
      go_wp2_with fail
      go_ret
      exact ⟨retOf (congrArg (Value.int .i64) (by rw [checkRs, k1, k2]; rfl)), b3⟩
    | true =>
      go_wp2_with fail
      go_ret
      exact ⟨retOf (congrArg (Value.int .i64) (by rw [checkRs, k1, k2]; rfl)), b3⟩
end Go.Proofs.Ytnbdnnbeiohmgaa
