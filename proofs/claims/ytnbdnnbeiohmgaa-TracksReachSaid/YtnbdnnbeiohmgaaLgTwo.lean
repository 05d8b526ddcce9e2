/- The document's two: the cells of either, of both, of the one without the other. -/
import Derived.Test.YtnbdnnbeiohmgaaLgRunsW
import Derived.Test.YtnbdnnbeiohmgaaLgEvery
import Derived.Test.YtnbdnnbeiohmgaaLgValid
namespace Go.Proofs.Ytnbdnnbeiohmgaa
open Go.RowKit Go.Shelf

/-- which cells: 0 either, 1 both, 2 the one without the other -/
def cmb (kd : Int) (x y : Bool) : Bool := (decide (kd = 0) && (x || y)) || (decide (kd = 1) && x && y) || (decide (kd = 2) && x && !y)
theorem refR_congr {P Q : Int → Int → Bool} {W H : Nat} (h : ∀ x y : Int, 0 ≤ x → x < W → 0 ≤ y → y < H → P x y = Q x y) : refR P W H = refR Q W H := by
  unfold refR
  refine rowsR_congr fun y hy => ?_
  have key : ∀ n, n ≤ W → runRow (fun x => P x y) n = runRow (fun x => Q x y) n := by
    intro n
    induction n with
    | zero => intro _; rfl
    | succ n ih =>
      intro hn
      have e := h n y (by omega) (by omega) (by omega) (by omega)
      cases hq : Q n y with
      | true => simp [runRow, e.trans hq, hq, ih (by omega)]
      | false => simp [runRow, e.trans hq, hq, ih (by omega)]
  exact key W (Nat.le_refl _)

set_option maxRecDepth 100000 in
set_option maxHeartbeats 16000000 in
theorem two_ref (W H S kd : Int) (vL va vb : Value) (ld a b : List R3) (w : World) (hW : 1 ≤ W ∧ W ≤ 256) (hH : 1 ≤ H ∧ H ≤ 256) (hS : 1 ≤ S ∧ S ≤ 50000) (hkd : kd = 0 ∨ kd = 1 ∨ kd = 2) (hLd : Runs w vL ld) (hpL : Proper W H ld) (hlL : ld.length ≤ 8192)
    (ha : Runs w va a) (hb : Runs w vb b) (hpa : Proper W H a) (hpb : Proper W H b) (hla : a.length ≤ 8192) (hlb : b.length ≤ 8192) :
    Calls Try.prog 66 #[.agg #[.int .i64 W, .int .i64 H, .int .i64 S, vL], va, vb, .int .i64 kd] w fun e w' =>
      (∃ v, e = .returned (.tuple #[v, .int .i64 (if (refR (fun x y => cmb kd (hasL a x y) (hasL b x y)) W.toNat H.toNat).length ≤ 8192 then 0 else 3)]) ∧ Runs w' v (if (refR (fun x y => cmb kd (hasL a x y) (hasL b x y)) W.toNat H.toNat).length ≤ 8192 then refR (fun x y => cmb kd (hasL a x y) (hasL b x y)) W.toNat H.toNat else [])) ∧ Below w.heap.size w w' := by
  obtain ⟨E, hE⟩ : ∃ E : Int, (if (refR (fun x y => cmb kd (hasL a x y) (hasL b x y)) W.toNat H.toNat).length ≤ 8192 then 0 else 3) = E := ⟨_, rfl⟩
  obtain ⟨RL, hRL⟩ : ∃ RL : List R3, (if (refR (fun x y => cmb kd (hasL a x y) (hasL b x y)) W.toNat H.toNat).length ≤ 8192 then refR (fun x y => cmb kd (hasL a x y) (hasL b x y)) W.toNat H.toNat else []) = RL := ⟨_, rfl⟩
  rw [hE, hRL]
  have HE := Lib.hid hE
  have HRL := Lib.hid hRL
  clear hE hRL
  have hmm := @run_makeMap Try.prog
  have HA := Lib.hid ha
  have HB := Lib.hid hb
  have HLd := Lib.hid hLd
  obtain ⟨Aa, ca, rfl, -⟩ := ha
  obtain ⟨Ab, cb, rfl, -⟩ := hb
  clear hLd
  go_enter Try.func66, Try.ntmps66
  go_wp2_with fail
  have b1 : Below w.heap.size w (w.alloc (.cells #[.int .i64 W, .int .i64 H, .int .i64 S, vL] 24)) := (Below.refl w.heap.size w).alloc (Nat.le_refl _) _
  have c0 : (w.alloc (.cells #[.int .i64 W, .int .i64 H, .int .i64 S, vL] 24)).cell? ⟨w.heap.size, 0, none⟩ = some (.int .i64 W) := by simp [go_sem]
  have c1 : (w.alloc (.cells #[.int .i64 W, .int .i64 H, .int .i64 S, vL] 24)).cell? ⟨w.heap.size, 1, none⟩ = some (.int .i64 H) := by simp [go_sem]
  have c2 : (w.alloc (.cells #[.int .i64 W, .int .i64 H, .int .i64 S, vL] 24)).cell? ⟨w.heap.size, 2, none⟩ = some (.int .i64 S) := by simp [go_sem]
  have c3 : (w.alloc (.cells #[.int .i64 W, .int .i64 H, .int .i64 S, vL] 24)).cell? ⟨w.heap.size, 3, none⟩ = some vL := by simp [go_sem]
  have hz1 : w.heap.size + 1 = (w.alloc (.cells #[.int .i64 W, .int .i64 H, .int .i64 S, vL] 24)).heap.size := by simp
  obtain ⟨w1, hw1⟩ : ∃ w1, (w.alloc (.cells #[.int .i64 W, .int .i64 H, .int .i64 S, vL] 24)) = w1 := ⟨_, rfl⟩
  rw [hw1] at b1 c0 c1 c2 c3 hz1 ⊢
  clear hw1
  have b1' := b1.alloc (by omega) (.cells #[.slice Aa a.length ca, .slice Ab b.length cb] 22)
  have hchk := valid_ref W H S vL (.slice (some ⟨w.heap.size + 1, 0, none⟩) 2 2) ld [.slice Aa a.length ca, .slice Ab b.length cb] [a, b] (w1.alloc (.cells #[.slice Aa a.length ca, .slice Ab b.length cb] 22)) hW hH hS (HLd.out.below b1') hpL hlL (Lst_lit (enc := enc1) (k := 1) (fun _ => rfl) w1 (w.heap.size + 1) 2 hz1.symm #[.slice Aa a.length ca, .slice Ab b.length cb] [.slice Aa a.length ca, .slice Ab b.length cb] 22 rfl rfl (by unfold maxLen; omega)) rfl (fun i u x hu hx => by
    match i, hu, hx with
    | 0, hu, hx => simp at hu hx; subst hu hx; exact ⟨HA.out.below b1', hpa, hla⟩
    | 1, hu, hx => simp at hu hx; subst hu hx; exact ⟨HB.out.below b1', hpb, hlb⟩
    | i + 2, hu, hx => simp at hu)
  have w1b : Below w1.heap.size w1 (w1.alloc (.cells #[.slice Aa a.length ca, .slice Ab b.length cb] 22)) := (Below.refl _ _).alloc (Nat.le_refl _) _
  refine hchk.mono ?_
  rintro e w2 ⟨rfl, hb2⟩
  have b12 := w1b.trans (hb2.mono w1b.size)
  obtain ⟨B, hB⟩ : ∃ B, w.heap.size = B := ⟨_, rfl⟩
  rw [hB] at b1 c0 c1 c2 c3 hz1 ⊢
  have c0 := (b12.cell (p := ⟨B, 0, none⟩) (by show B < w1.heap.size; omega)).trans c0
  have c1 := (b12.cell (p := ⟨B, 1, none⟩) (by show B < w1.heap.size; omega)).trans c1
  have c2 := (b12.cell (p := ⟨B, 2, none⟩) (by show B < w1.heap.size; omega)).trans c2
  have c3 := (b12.cell (p := ⟨B, 3, none⟩) (by show B < w1.heap.size; omega)).trans c3
  have b2 := b1.trans (b12.mono (by omega))
  have hz2 : B < w2.heap.size := by have := b12.size; omega
  clear hchk w1b hb2 b12 b1 b1' hz1
  go_wp2_with fail
  refine (of_ref _ a w2 (HA.out.below (by rw [hB]; exact b2)) (fun r hr => by have := hpa.rows r hr; omega) hla).mono ?_
  rintro e w3 ⟨⟨ma, Na, rfl, hSa, hma⟩, hb3⟩
  have c0 := (hb3.cell (p := ⟨B, 0, none⟩) hz2).trans c0
  have c1 := (hb3.cell (p := ⟨B, 1, none⟩) hz2).trans c1
  have c2 := (hb3.cell (p := ⟨B, 2, none⟩) hz2).trans c2
  have c3 := (hb3.cell (p := ⟨B, 3, none⟩) hz2).trans c3
  have b3 := b2.trans (hb3.mono (by omega))
  have hz3 : B < w3.heap.size := by have := hb3.size; omega
  have hla3 := hSa.lt
  clear hb3 b2
  go_wp2_with fail
  refine (of_ref _ b w3 (HB.out.below (by rw [hB]; exact b3)) (fun r hr => by have := hpb.rows r hr; omega) hlb).mono ?_
  rintro e w4 ⟨⟨mb, Nb, rfl, hSb, hmb⟩, hb4⟩
  have c0 := (hb4.cell (p := ⟨B, 0, none⟩) hz3).trans c0
  have c1 := (hb4.cell (p := ⟨B, 1, none⟩) hz3).trans c1
  have c2 := (hb4.cell (p := ⟨B, 2, none⟩) hz3).trans c2
  have c3 := (hb4.cell (p := ⟨B, 3, none⟩) hz3).trans c3
  have b4 := b3.trans (hb4.mono (by omega))
  have hSa := hSa.below hb4
  have hz4 : B < w4.heap.size := by have := hb4.size; omega
  have hlb4 := hSb.lt
  have hla4 : ma < w4.heap.size := by have := hb4.size; omega
  clear hb4 b3
  go_upto_region 7 with fail
  have he : Below w4.heap.size w4 (w4.alloc (.map #[] 0)) := (Below.refl _ _).alloc (Nat.le_refl _) _
  have c0 := (he.cell (p := ⟨B, 0, none⟩) hz4).trans c0
  have c1 := (he.cell (p := ⟨B, 1, none⟩) hz4).trans c1
  have c2 := (he.cell (p := ⟨B, 2, none⟩) hz4).trans c2
  have c3 := (he.cell (p := ⟨B, 3, none⟩) hz4).trans c3
  have b5 := b4.trans (he.mono (by omega))
  have hSa := hSa.below he
  have hSb := hSb.below he
  have hSo := SetC.made w4
  have hz5 : w4.heap.size < (w4.alloc (.map #[] 0)).heap.size := by simp
  obtain ⟨w5, hw5⟩ : ∃ w5, w4.alloc (.map #[] 0) = w5 := ⟨_, rfl⟩
  rw [hw5] at c0 c1 c2 c3 b5 hSa hSb hSo hz5 ⊢
  obtain ⟨Mo, hMo⟩ : ∃ Mo, w4.heap.size = Mo := ⟨_, rfl⟩
  rw [hMo] at hSo hz5 hz4 hlb4 hla4 ⊢
  clear hw5 he b4 hmm
  have hzB : B < w5.heap.size := by omega
  have HSo := Lib.hid hSo
  have HSa := Lib.hid hSa
  have HSb := Lib.hid hSb
  clear hSo hSa hSb
  go_wp2_with fail
  refine (every_ref W H S vL _ hW hH).mono ?_
  rintro e w6 ⟨⟨vl, rfl, hvl⟩, hb6⟩
  have c0 := (hb6.cell (p := ⟨B, 0, none⟩) hzB).trans c0
  have c1 := (hb6.cell (p := ⟨B, 1, none⟩) hzB).trans c1
  have c2 := (hb6.cell (p := ⟨B, 2, none⟩) hzB).trans c2
  have c3 := (hb6.cell (p := ⟨B, 3, none⟩) hzB).trans c3
  have b6 := b5.trans (hb6.mono (by omega))
  have hSo := HSo.out.below hb6
  have hSa := HSa.out.below hb6
  have hSb := HSb.out.below hb6
  have hz6 := hb6.size
  obtain ⟨L, hL⟩ : ∃ L, everyL W.toNat H.toNat = L := ⟨_, rfl⟩
  rw [hL] at hvl
  have hLl : L.length ≤ 65536 := by
    rw [← hL, everyL_len]
    have := Nat.mul_le_mul (show H.toNat ≤ 256 by omega) (show W.toNat ≤ 256 by omega)
    omega
  have hLm : ∀ p q, (p, q) ∈ L ↔ (0 ≤ p ∧ p < W) ∧ 0 ≤ q ∧ q < H := fun p q => by
    rw [← hL, mem_everyL, Int.toNat_of_nonneg (by omega), Int.toNat_of_nonneg (by omega)]
  have HLm := Lib.hid hLm
  obtain ⟨Al, cl, rfl, -, hcl, hcs⟩ := hvl
  unfold maxLen at hcl
  obtain ⟨n, hn⟩ : ∃ n, L.length = n := ⟨_, rfl⟩
  rw [hn] at hcs hLl ⊢
  have HN := Lib.hid hn
  have HCs := Lib.hid hcs
  clear hL hb6 b5 hLm hcs hn
  go_wp2_with fail
  go_loopw [15] (fun i wr => ∃ k : Nat, k ≤ n ∧ i = .int .i64 k ∧ (SetC wr Mo k (fun p q => decide ((p, q) ∈ L.take k) && cmb kd (hasL a p q) (hasL b p q))) ∧ w6.grownBy wr (some Mo)) (fun i _ => n - (intOf i).toNat)
  case atStart => exact ⟨0, Nat.zero_le _, rfl, hSo.ext (fun p q => by simp), ⟨rfl, rfl, rfl, Nat.le_refl _, fun _ _ _ => rfl⟩⟩
  case round =>
    obtain ⟨k, hk, rfl, hSk, hg⟩ := hrel
    have hMo6 : Mo < w6.heap.size := by omega
    by_cases hlt : k < n
    · obtain ⟨⟨cx, cy⟩, hx⟩ : ∃ x, L[k]? = some x := ⟨_, List.getElem?_eq_getElem (by rw [HN.out]; exact hlt)⟩
      obtain ⟨bl, off, rfl, hbl, hc⟩ := HCs.out (by omega)
      have hin := (HLm.out cx cy).1 (List.mem_of_getElem? hx)
      have k0 := hc k 0 _ _ hx rfl
      have k1 := hc k 1 _ _ hx rfl
      rw [Nat.add_zero] at k0
      have hneb : some bl ≠ some Mo := fun e => by
        obtain rfl : bl = Mo := by simpa using e
        obtain ⟨D, ⟨es, clock, hh, -⟩, -⟩ := hSo
        unfold World.cell? at k0
        rw [hh] at k0
        simp at k0
      have k0 := (hg.cell_far ⟨bl, off + k * 2, none⟩ hbl hneb).trans k0
      have k1 := (hg.cell_far ⟨bl, off + k * 2 + 1, none⟩ hbl hneb).trans k1
      have hSa' := hSa.kept hg (by simp; omega)
      have hSb' := hSb.kept hg (by simp; omega)
      have hkn : (k : Int) < (n : Int) := by omega
      have ix : isI64 cx := isI64_of (by omega)
      have iy : isI64 cy := isI64_of (by omega)
      have htk : ∀ p q, ((p, q) ∈ L.take (k + 1)) ↔ ((p, q) ∈ L.take k ∨ (p = cx ∧ q = cy)) := fun p q => by
        rw [List.take_add_one, hx]
        simp
      have HTk := Lib.hid htk
      have hkm : k < maxLen := by unfold maxLen; omega
      obtain ⟨X, hX⟩ : ∃ X, hasL a cx cy = X := ⟨_, rfl⟩
      obtain ⟨Y, hY⟩ : ∃ Y, hasL b cx cy = Y := ⟨_, rfl⟩
      have HXY := Lib.hid (And.intro hX hY)
      clear hc hx hneb htk hin c0 c1 c2 c3
      go_upto_region 12 with (at_lookup; refine wpList_lookup_setC _ rfl _ _ 140 rfl setT ma Na (hasL a) rfl hSa' cx cy rfl ix iy ?_; rw [hX])
      go_upto_region 13 with (at_lookup; refine wpList_lookup_setC _ rfl _ _ 140 rfl setT mb Nb (hasL b) rfl hSb' cx cy rfl ix iy ?_; rw [hY])
      clear hX hY
      rcases hkd with rfl | rfl | rfl
      all_goals
        go_wp2_with (at_mapUpdate; refine wpList_update_setC _ rfl _ _ _ 140 rfl setT Mo k _ rfl hSk hkm cx cy _ rfl rfl ix iy ?_; intro w8 hS8 hg8)
      all_goals
        go_roundw
        case rel =>
          refine ⟨k + 1, by omega, by go_num, hS8.ext (fun p q => ?_), hg.trans hg8⟩
          by_cases e : p = cx ∧ q = cy
          · rw [if_pos e, e.1, e.2, HXY.out.1, HXY.out.2]
            have hd : decide ((cx, cy) ∈ L.take (k + 1)) = true := by
              rw [decide_eq_true_eq, HTk.out]
              exact .inr ⟨rfl, rfl⟩
            rw [hd]
            cases X <;> cases Y <;> first | rfl | contradiction
          · rw [if_neg e]
            have hd : decide ((p, q) ∈ L.take (k + 1)) = decide ((p, q) ∈ L.take k) := by
              rw [decide_eq_decide, HTk.out]
              constructor
              · rintro (h | h)
                · exact h
                · exact absurd h e
              · exact .inl
            rw [hd]
        case measure => simp [intOf]; omega
    · have hke : k = n := by omega
      subst hke
      have hneB : some B ≠ some Mo := by simp; omega
      have hB6 : B < w6.heap.size := by omega
      have d0 := (hg.cell_far ⟨B, 0, none⟩ hB6 hneB).trans c0
      have d1 := (hg.cell_far ⟨B, 1, none⟩ hB6 hneB).trans c1
      have d2 := (hg.cell_far ⟨B, 2, none⟩ hB6 hneB).trans c2
      have d3 := (hg.cell_far ⟨B, 3, none⟩ hB6 hneB).trans c3
      have b7 := b6.grown hg (by omega) (fun j hj => by cases hj; omega)
      have hcg : refR (fun p q => decide ((p, q) ∈ L.take k) && cmb kd (hasL a p q) (hasL b p q)) W.toNat H.toNat = refR (fun x y => cmb kd (hasL a x y) (hasL b x y)) W.toNat H.toNat := refR_congr fun x y h0 h1 h2 h3 => by
        have hd : decide ((x, y) ∈ L.take k) = true := by
          rw [List.take_of_length_le (by have := HN.out; omega), decide_eq_true_eq, HLm.out]
          omega
        rw [hd, Bool.true_and]
      have hrr := runs_ref W H S vL Mo k _ wr hW hH hSk
      rw [hcg, HE.out, HRL.out] at hrr
      have HRr := Lib.hid hrr
      have hsz := b7.size
      clear hrr hcg hSk hg c0 c1 c2 c3 hSa hSb hSo
      go_wp2_with fail
      refine HRr.out.mono ?_
      rintro e w9 ⟨⟨v9, rfl, hv9⟩, hb9⟩
      have b9 := b7.trans (hb9.mono (by omega))
      clear hb9
      go_wp2_with fail
      exact bodyPost_ret (v := .tuple #[v9, .int .i64 E]) (by simp [results, Try.results66, go_sem]) rfl ⟨⟨v9, rfl, hv9⟩, by rw [hB]; exact b9⟩
end Go.Proofs.Ytnbdnnbeiohmgaa
