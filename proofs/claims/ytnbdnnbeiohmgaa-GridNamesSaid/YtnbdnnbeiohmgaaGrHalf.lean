/- grid.Half. -/
import Derived.Laws.EntriesVeiled
import Derived.Test.YtnbdnnbeiohmgaaGrHalf2
namespace Go.Proofs.Ytnbdnnbeiohmgaa
open Go.RowKit Go.Shelf Go.Lib

theorem halfRow_le (W : Int) (L : Int → Bool) (hW : 1 ≤ W ∧ W ≤ 256) : -1152921504606846976 ≤ (halfRow W L).2 ∧ (halfRow W L).2 ≤ 1152921504606846976 := by
  have h1 := upTo_spec (L := L) (hi := W - 1) W.toNat 0
  have h2 := dnTo_spec (L := L) (lo := upTo L (W - 1) W.toNat 0) W.toNat (W - 1)
  simp only [halfRow]
  omega

def halfOK (W H S : Int) (ld : List R3) (a b : Int × Int) : Bool := checkG W H S ld && (nearS a && nearS b) && !decide (a = b)

set_option maxRecDepth 100000 in
set_option maxHeartbeats 8000000 in
theorem half_gr (W H S ax ay bx by' : Int) (vL : Value) (ld : List R3) (w : World) (h : Runs w vL ld) :
    Calls Try.prog 28 #[.agg #[.int .i64 W, .int .i64 H, .int .i64 S, vL], .agg #[.int .i64 ax, .int .i64 ay], .agg #[.int .i64 bx, .int .i64 by']] w fun e w' =>
      (∃ R v, e = .returned (.tuple #[v, .int .i64 (argE (halfOK W H S ld (ax, ay) (bx, by')))]) ∧ Runs w' v R ∧ (halfOK W H S ld (ax, ay) (bx, by') = true → RegOf (fillF W (fun y => halfRow W (fun x => leftB S ax ay bx by' x y)) H.toNat) R)) ∧ Below w.heap.size w w' := by
  have b1 : Below w.heap.size w (((w.alloc (.cells #[.int .i64 W, .int .i64 H, .int .i64 S, vL] 24)).alloc (.cells #[.int .i64 ax, .int .i64 ay] 26)).alloc (.cells #[.int .i64 bx, .int .i64 by'] 26)) :=
    (((Below.refl w.heap.size w).alloc (Nat.le_refl _) _).alloc (by simp) _).alloc (by simp; omega) _
  have hG := checkGrid_gr W H S vL ld _ (h.below b1)
  have HG := Lib.hid hG
  clear hG h
  go_enter Try.func28, Try.ntmps28
  go_wp2_with fail
  refine HG.out.mono ?_
  rintro e w1 ⟨rfl, hb1⟩
  have b2 := b1.trans (hb1.mono (by simp; omega))
  have c0 := hb1.cell (p := ⟨w.heap.size, 0, none⟩) (by simp; omega)
  have c1 := hb1.cell (p := ⟨w.heap.size, 1, none⟩) (by simp; omega)
  have c2 := hb1.cell (p := ⟨w.heap.size, 2, none⟩) (by simp; omega)
  have c3 := hb1.cell (p := ⟨w.heap.size, 3, none⟩) (by simp; omega)
  have a0 := hb1.cell (p := ⟨w.heap.size + 1, 0, none⟩) (by simp)
  have a1 := hb1.cell (p := ⟨w.heap.size + 1, 1, none⟩) (by simp)
  have d0 := hb1.cell (p := ⟨w.heap.size + 1 + 1, 0, none⟩) (by simp)
  have d1 := hb1.cell (p := ⟨w.heap.size + 1 + 1, 1, none⟩) (by simp)
  have hz := hb1.size
  simp [go_sem] at c0 c1 c2 c3 a0 a1 d0 d1 hz
  clear HG hb1 b1
  obtain ⟨B, hB⟩ : ∃ B, w.heap.size = B := ⟨_, rfl⟩
  rw [hB] at b2 c0 c1 c2 c3 a0 a1 d0 d1 hz
  cases k1 : checkG W H S ld with
  | false =>
    have hK := Lib.hid (show halfOK W H S ld (ax, ay) (bx, by') = false by rw [halfOK, k1]; rfl)
    rw [argE_false]
    go_wp2_with fail
    exact bodyPost_ret (v := .tuple #[.slice none 0 0, .int .i64 2]) (by simp [results, Try.results28, go_sem]) rfl ⟨⟨[], _, by rw [hK.out]; rfl, Lst.nil _, fun h => by simp [hK.out] at h⟩, hB.symm ▸ b2⟩
  | true =>
    rw [argE_true]
    obtain ⟨hW, hH, hS, -⟩ := checkG_iff k1
    have hN := near_gr (.slice (some ⟨w1.heap.size, 0, none⟩) 2 2) [(ax, ay), (bx, by')] _ (Lst_lit encS_len w1 w1.heap.size 2 rfl #[.int .i64 ax, .int .i64 ay, .int .i64 bx, .int .i64 by'] [(ax, ay), (bx, by')] 26 rfl rfl (by unfold maxLen; omega)) (by simp)
    have e1 : [(ax, ay), (bx, by')].all nearS = (nearS (ax, ay) && nearS (bx, by')) := by simp
    rw [e1] at hN
    have HN := Lib.hid hN
    clear hN e1
    rw [hB]
    go_wp2_with fail
    refine HN.out.mono ?_
    rintro e w2 ⟨rfl, hb2⟩
    have b3 : Below w1.heap.size w1 w2 := ((Below.refl _ _).alloc (Nat.le_refl _) _).trans (hb2.mono (by simp))
    have c0 := (b3.cell (p := ⟨B, 0, none⟩) (by show B < w1.heap.size; omega)).trans c0
    have c1 := (b3.cell (p := ⟨B, 1, none⟩) (by show B < w1.heap.size; omega)).trans c1
    have c2 := (b3.cell (p := ⟨B, 2, none⟩) (by show B < w1.heap.size; omega)).trans c2
    have c3 := (b3.cell (p := ⟨B, 3, none⟩) (by show B < w1.heap.size; omega)).trans c3
    have a0 := (b3.cell (p := ⟨B + 1, 0, none⟩) (by show B + 1 < w1.heap.size; omega)).trans a0
    have a1 := (b3.cell (p := ⟨B + 1, 1, none⟩) (by show B + 1 < w1.heap.size; omega)).trans a1
    have d0 := (b3.cell (p := ⟨B + 1 + 1, 0, none⟩) (by show B + 1 + 1 < w1.heap.size; omega)).trans d0
    have d1 := (b3.cell (p := ⟨B + 1 + 1, 1, none⟩) (by show B + 1 + 1 < w1.heap.size; omega)).trans d1
    have b4 := b2.trans (b3.mono (by omega))
    have hz2 := b3.size
    clear hb2 b3 HN
    cases k2 : (nearS (ax, ay) && nearS (bx, by')) with
    | false =>
      have hK := Lib.hid (show halfOK W H S ld (ax, ay) (bx, by') = false by rw [halfOK, k1, k2]; rfl)
      go_wp2_with fail
      exact bodyPost_ret (v := .tuple #[.slice none 0 0, .int .i64 2]) (by simp [results, Try.results28, go_sem]) rfl ⟨⟨[], _, by rw [hK.out]; rfl, Lst.nil _, fun h => by simp [hK.out] at h⟩, hB.symm ▸ b4⟩
    | true =>
      have k2' := k2
      simp only [nearS, Bool.and_eq_true] at k2'
      have hax := nearC_iff k2'.1.1
      have hay := nearC_iff k2'.1.2
      have hbx := nearC_iff k2'.2.1
      have hby := nearC_iff k2'.2.2
      clear k2'
      by_cases hab : ax = bx ∧ ay = by'
      · obtain ⟨rfl, rfl⟩ := hab
        have hK := Lib.hid (show halfOK W H S ld (ax, ay) (ax, ay) = false by simp [halfOK])
        go_wp2_with fail
        exact bodyPost_ret (v := .tuple #[.slice none 0 0, .int .i64 2]) (by simp [results, Try.results28, go_sem]) rfl ⟨⟨[], _, by rw [hK.out]; rfl, Lst.nil _, fun h => by simp [hK.out] at h⟩, hB.symm ▸ b4⟩
      · have hK := Lib.hid (show halfOK W H S ld (ax, ay) (bx, by') = true by simp only [halfOK, k1, k2, Bool.true_and, Bool.not_eq_true', decide_eq_false_iff_not, Prod.mk.injEq]; exact hab)
        have eg : ∀ args w, (callFunc 74 args).run Try.prog w = .ok (.enter 74 args) w := enters_of Try.func74 (by kernel_rfl) rfl
        have n0 : B < w2.heap.size := by omega
        have n1 : B + 1 < w2.heap.size := by omega
        have n2 : B + 1 + 1 < w2.heap.size := by omega
        by_cases hx1 : ax = bx
        · subst hx1
          have hy1 : ¬ ay = by' := fun e => hab ⟨rfl, e⟩
          go_wp2_with fail
          have w3c : Below w2.heap.size w2 (w2.alloc (.cells #[.func (.func 73) #[] #[.pointer (some ⟨B + 1 + 1, 0, none⟩), .pointer (some ⟨B + 1, 0, none⟩), .pointer (some ⟨B, 0, none⟩)]] 122)) := (Below.refl _ _).alloc (Nat.le_refl _) _
          have b5 := b4.trans (w3c.mono (by omega))
          have c0 := (w3c.cell (p := ⟨B, 0, none⟩) n0).trans c0
          have c2 := (w3c.cell (p := ⟨B, 2, none⟩) n0).trans c2
          have a0 := (w3c.cell (p := ⟨B + 1, 0, none⟩) n1).trans a0
          have a1 := (w3c.cell (p := ⟨B + 1, 1, none⟩) n1).trans a1
          have d0 := (w3c.cell (p := ⟨B + 1 + 1, 0, none⟩) n2).trans d0
          have d1 := (w3c.cell (p := ⟨B + 1 + 1, 1, none⟩) n2).trans d1
          have cl : (w2.alloc (.cells #[.func (.func 73) #[] #[.pointer (some ⟨B + 1 + 1, 0, none⟩), .pointer (some ⟨B + 1, 0, none⟩), .pointer (some ⟨B, 0, none⟩)]] 122)).cell? ⟨w2.heap.size, 0, none⟩ = some (.func (.func 73) #[] #[.pointer (some ⟨B + 1 + 1, 0, none⟩), .pointer (some ⟨B + 1, 0, none⟩), .pointer (some ⟨B, 0, none⟩)]) := by simp [go_sem]
          have hz3 : (w2.alloc (.cells #[.func (.func 73) #[] #[.pointer (some ⟨B + 1 + 1, 0, none⟩), .pointer (some ⟨B + 1, 0, none⟩), .pointer (some ⟨B, 0, none⟩)]] 122)).heap.size = w2.heap.size + 1 := by simp
          obtain ⟨Lb, hLb⟩ : ∃ Lb, w2.heap.size = Lb := ⟨_, rfl⟩
          obtain ⟨w3, hw3⟩ : ∃ w3, w2.alloc (.cells #[.func (.func 73) #[] #[.pointer (some ⟨B + 1 + 1, 0, none⟩), .pointer (some ⟨B + 1, 0, none⟩), .pointer (some ⟨B, 0, none⟩)]] 122) = w3 := ⟨_, rfl⟩
          rw [hw3] at b5 c0 c2 a0 a1 d0 d1 cl hz3 ⊢
          rw [hLb] at cl hz3 n0 n1 n2 ⊢
          clear hw3 w3c
          have hf := filled_ok W H S vL 74 #[.pointer (some ⟨B, 0, none⟩), .pointer (some ⟨Lb, 0, none⟩)] (fun y => halfRow W (fun x => leftB S ax ay ax by' x y)) w3 hW hH eg (fun y W' hyy hbl =>
            half2_gr W H S vL y B Lb _ (fun x => leftB S ax ay ax by' x y) W' hW (by have := hbl.size; omega) (by have := hbl.size; omega) ((hbl.cell (p := ⟨B, 0, none⟩) (by show B < w3.heap.size; omega)).trans c0) ((hbl.cell (p := ⟨Lb, 0, none⟩) (by show Lb < w3.heap.size; omega)).trans cl)
              (fun x W'' hx hbl2 =>
                have hbl3 : Below w3.heap.size w3 W'' := hbl.trans (hbl2.mono hbl.size)
                half1_gr S ax ay ax by' x y B W'' hS hax hay hbx hby hx ⟨by omega, by omega⟩ (by have := hbl3.size; omega)
                  ((hbl3.cell (p := ⟨B, 2, none⟩) (by show B < w3.heap.size; omega)).trans c2) ((hbl3.cell (p := ⟨B + 1, 0, none⟩) (by show B + 1 < w3.heap.size; omega)).trans a0) ((hbl3.cell (p := ⟨B + 1, 1, none⟩) (by show B + 1 < w3.heap.size; omega)).trans a1)
                  ((hbl3.cell (p := ⟨B + 1 + 1, 0, none⟩) (by show B + 1 + 1 < w3.heap.size; omega)).trans d0) ((hbl3.cell (p := ⟨B + 1 + 1, 1, none⟩) (by show B + 1 + 1 < w3.heap.size; omega)).trans d1))) (fun y => halfRow_le W _ hW)
          have HF := Lib.hid hf
          clear hf
          refine HF.out.mono ?_
          rintro e w4 ⟨⟨R, hR, v, rfl, hv⟩, hb4⟩
          have HRg := Lib.hid hR
          have HV := Lib.hid hv
          clear hR hv
          go_wp2_with fail
          exact bodyPost_ret (v := .tuple #[v, .int .i64 0]) (by simp [results, Try.results28, go_sem]) rfl ⟨⟨R, v, by rw [hK.out]; rfl, HV.out, fun _ => HRg.out⟩, hB.symm ▸ b5.trans (hb4.mono (by omega))⟩
        · go_wp2_with fail
          have w3c : Below w2.heap.size w2 (w2.alloc (.cells #[.func (.func 73) #[] #[.pointer (some ⟨B + 1 + 1, 0, none⟩), .pointer (some ⟨B + 1, 0, none⟩), .pointer (some ⟨B, 0, none⟩)]] 122)) := (Below.refl _ _).alloc (Nat.le_refl _) _
          have b5 := b4.trans (w3c.mono (by omega))
          have c0 := (w3c.cell (p := ⟨B, 0, none⟩) n0).trans c0
          have c2 := (w3c.cell (p := ⟨B, 2, none⟩) n0).trans c2
          have a0 := (w3c.cell (p := ⟨B + 1, 0, none⟩) n1).trans a0
          have a1 := (w3c.cell (p := ⟨B + 1, 1, none⟩) n1).trans a1
          have d0 := (w3c.cell (p := ⟨B + 1 + 1, 0, none⟩) n2).trans d0
          have d1 := (w3c.cell (p := ⟨B + 1 + 1, 1, none⟩) n2).trans d1
          have cl : (w2.alloc (.cells #[.func (.func 73) #[] #[.pointer (some ⟨B + 1 + 1, 0, none⟩), .pointer (some ⟨B + 1, 0, none⟩), .pointer (some ⟨B, 0, none⟩)]] 122)).cell? ⟨w2.heap.size, 0, none⟩ = some (.func (.func 73) #[] #[.pointer (some ⟨B + 1 + 1, 0, none⟩), .pointer (some ⟨B + 1, 0, none⟩), .pointer (some ⟨B, 0, none⟩)]) := by simp [go_sem]
          have hz3 : (w2.alloc (.cells #[.func (.func 73) #[] #[.pointer (some ⟨B + 1 + 1, 0, none⟩), .pointer (some ⟨B + 1, 0, none⟩), .pointer (some ⟨B, 0, none⟩)]] 122)).heap.size = w2.heap.size + 1 := by simp
          obtain ⟨Lb, hLb⟩ : ∃ Lb, w2.heap.size = Lb := ⟨_, rfl⟩
          obtain ⟨w3, hw3⟩ : ∃ w3, w2.alloc (.cells #[.func (.func 73) #[] #[.pointer (some ⟨B + 1 + 1, 0, none⟩), .pointer (some ⟨B + 1, 0, none⟩), .pointer (some ⟨B, 0, none⟩)]] 122) = w3 := ⟨_, rfl⟩
          rw [hw3] at b5 c0 c2 a0 a1 d0 d1 cl hz3 ⊢
          rw [hLb] at cl hz3 n0 n1 n2 ⊢
          clear hw3 w3c
          have hf := filled_ok W H S vL 74 #[.pointer (some ⟨B, 0, none⟩), .pointer (some ⟨Lb, 0, none⟩)] (fun y => halfRow W (fun x => leftB S ax ay bx by' x y)) w3 hW hH eg (fun y W' hyy hbl =>
            half2_gr W H S vL y B Lb _ (fun x => leftB S ax ay bx by' x y) W' hW (by have := hbl.size; omega) (by have := hbl.size; omega) ((hbl.cell (p := ⟨B, 0, none⟩) (by show B < w3.heap.size; omega)).trans c0) ((hbl.cell (p := ⟨Lb, 0, none⟩) (by show Lb < w3.heap.size; omega)).trans cl)
              (fun x W'' hx hbl2 =>
                have hbl3 : Below w3.heap.size w3 W'' := hbl.trans (hbl2.mono hbl.size)
                half1_gr S ax ay bx by' x y B W'' hS hax hay hbx hby hx ⟨by omega, by omega⟩ (by have := hbl3.size; omega)
                  ((hbl3.cell (p := ⟨B, 2, none⟩) (by show B < w3.heap.size; omega)).trans c2) ((hbl3.cell (p := ⟨B + 1, 0, none⟩) (by show B + 1 < w3.heap.size; omega)).trans a0) ((hbl3.cell (p := ⟨B + 1, 1, none⟩) (by show B + 1 < w3.heap.size; omega)).trans a1)
                  ((hbl3.cell (p := ⟨B + 1 + 1, 0, none⟩) (by show B + 1 + 1 < w3.heap.size; omega)).trans d0) ((hbl3.cell (p := ⟨B + 1 + 1, 1, none⟩) (by show B + 1 + 1 < w3.heap.size; omega)).trans d1))) (fun y => halfRow_le W _ hW)
          have HF := Lib.hid hf
          clear hf
          refine HF.out.mono ?_
          rintro e w4 ⟨⟨R, hR, v, rfl, hv⟩, hb4⟩
          have HRg := Lib.hid hR
          have HV := Lib.hid hv
          clear hR hv
          go_wp2_with fail
          exact bodyPost_ret (v := .tuple #[v, .int .i64 0]) (by simp [results, Try.results28, go_sem]) rfl ⟨⟨R, v, by rw [hK.out]; rfl, HV.out, fun _ => HRg.out⟩, hB.symm ▸ b5.trans (hb4.mono (by omega))⟩
end Go.Proofs.Ytnbdnnbeiohmgaa
