/- The document's Runs: the walk. -/
import Derived.Test.YtnbdnnbeiohmgaaDoorLgA
import Derived.Test.YtnbdnnbeiohmgaaDoorLgOf
namespace Go.Proofs.YtnbdnnbeiohmgaaDoor
open Go.RowKit Go.Shelf

/-- a cell behind a list of runs -/
def stepR (O : List R3) (y x : Int) : List R3 :=
  match O.getLast? with
  | some r => if r.1 = y ∧ r.2.2 = x then O.dropLast ++ [(r.1, r.2.1, x + 1)] else O ++ [(y, x, x + 1)]
  | none => [(y, x, x + 1)]
theorem stepR_nil (y x : Int) : stepR [] y x = [(y, x, x + 1)] := rfl
theorem stepR_in {O : List R3} {a f t y x : Int} (h : a = y ∧ t = x) : stepR (O ++ [(a, f, t)]) y x = O ++ [(a, f, x + 1)] := by simp [stepR, h]
theorem stepR_out {O : List R3} {a f t y x : Int} (h : ¬ (a = y ∧ t = x)) : stepR (O ++ [(a, f, t)]) y x = O ++ [(a, f, t)] ++ [(y, x, x + 1)] := by
  unfold stepR
  rw [List.getLast?_concat]
  simp only
  rw [if_neg h]
theorem stepR_row {O : List R3} {y : Nat} (hO : ∀ r, r ∈ O → r.1 < y) (o : List S2) (x : Int) : stepR (O ++ rowR y o) y x = O ++ rowR y (joinX o x) := by
  rcases List.eq_nil_or_concat o with rfl | ⟨o', a, rfl⟩
  · have e : joinX [] x = [(x, x + 1)] := rfl
    rw [e]
    simp only [rowR, List.map_nil, List.append_nil, List.map_cons]
    rcases List.eq_nil_or_concat O with rfl | ⟨O', r, rfl⟩
    · rfl
    · rw [List.concat_eq_append] at hO ⊢
      have := hO r (by simp)
      exact stepR_out (O := O') (a := r.1) (f := r.2.1) (t := r.2.2) (by omega)
  · rw [List.concat_eq_append]
    have e : O ++ rowR y (o' ++ [a]) = (O ++ rowR y o') ++ [((y : Int), a.1, a.2)] := by simp [rowR]
    rw [e]
    by_cases h : a.2 = x
    · rw [stepR_in ⟨rfl, h⟩, joinX_in h]
      simp [rowR]
    · rw [stepR_out (fun k => h k.2), joinX_out h]
      simp [rowR]
/-- the runs of a row, on the way -/
theorem rowsR_rows {ms : Nat → List S2} : ∀ {n : Nat} {r : R3}, r ∈ rowsR ms n → r.1 < n
  | 0, r, h => by simp [rowsR] at h
  | n + 1, r, h => by
    rw [rowsR_succ, List.mem_append] at h
    rcases h with h | h
    · have := rowsR_rows h; omega
    · simp only [rowR, List.mem_map] at h
      obtain ⟨s, -, rfl⟩ := h
      simp only
      omega
theorem runRow_len (f : Int → Bool) : ∀ n, (runRow f n).length ≤ n
  | 0 => by simp [runRow]
  | n + 1 => by
    have h := runRow_len f n
    simp only [runRow]
    split
    · rcases List.eq_nil_or_concat (runRow f n) with e | ⟨o, a, e⟩
      · rw [e]; simp [joinX]
      · rw [List.concat_eq_append] at e
        rw [e] at h ⊢
        unfold joinX
        rw [List.getLast?_concat]
        simp only
        split
        · simp at h ⊢; omega
        · simp at h ⊢; omega
    · omega
theorem rowsR_lenW {f : Nat → Int → Bool} {W : Nat} : ∀ n, (rowsR (fun y => runRow (f y) W) n).length ≤ n * W
  | 0 => by simp [rowsR]
  | n + 1 => by
    rw [rowsR_succ, List.length_append, Nat.add_mul]
    have h1 := rowsR_lenW (f := f) (W := W) n
    have h2 := runRow_len (f n) W
    simp only [rowR, List.length_map]
    omega

/-- the last run's end written over -/
theorem ownsEnd {w : World} {base g cap : Nat} {e : TypeId} {O : List R3} {a f t : Int} (z : Int) (h : w.ownsRow base e 3 (.slice (some ⟨g, 0, none⟩) (O.length + 1) cap) (O.length + 1) (flatE encR (O ++ [(a, f, t)]))) :
    (w.setCell ⟨g, O.length * 3 + 2, none⟩ (.int .i64 z)).ownsRow base e 3 (.slice (some ⟨g, 0, none⟩) (O.length + 1) cap) (O.length + 1) (flatE encR (O ++ [(a, f, z)])) := by
  refine ⟨by rw [flatE_length encR_len]; simp, .inr ?_⟩
  rcases h.2 with ⟨h0, -⟩ | ⟨g', cap', cur, hv, hb, hh, h1, h2, h3, h4⟩
  · cases h0
  cases hv
  refine ⟨g, cap, cur.setIfInBounds (O.length * 3 + 2) (.int .i64 z), rfl, hb, ?_, h1, h2, by simpa using h3, ?_⟩
  · have hgl : g < w.heap.size := (Array.getElem?_eq_some_iff.1 hh).1
    simp [World.setCell, Array.getElem?_modify, hh]
  · apply List.ext_getElem?
    intro i
    have hold : (cur.toList.take ((O.length + 1) * 3))[i]? = (flatE encR (O ++ [(a, f, t)]))[i]? := by rw [h4]
    rw [flatE_append] at hold ⊢
    have hfl : (flatE encR O).length = O.length * 3 := flatE_length encR_len O
    rcases Nat.lt_or_ge i ((O.length + 1) * 3) with hi2 | hi2
    · rw [List.getElem?_take_of_lt hi2] at hold ⊢
      rw [Array.getElem?_toList] at hold ⊢
      have hlt : O.length * 3 + 2 < cur.size := by omega
      by_cases e2 : i = O.length * 3 + 2
      · subst e2
        rw [List.getElem?_append_right (by omega), hfl]
        simp [flatE, encR, hlt]
      · rw [Array.getElem?_setIfInBounds_ne (by omega), hold]
        rcases Nat.lt_or_ge i (O.length * 3) with hi | hi
        · rw [List.getElem?_append_left (by omega), List.getElem?_append_left (by omega)]
        · rw [List.getElem?_append_right (by omega), List.getElem?_append_right (by omega), hfl]
          have : i = O.length * 3 ∨ i = O.length * 3 + 1 := by omega
          rcases this with rfl | rfl
          · simp [flatE, encR]
          · simp [flatE, encR]
    · rw [List.getElem?_take_eq_none hi2]
      symm
      rw [List.getElem?_eq_none]
      have h3' : (flatE encR [(a, f, z)]).length = 3 := rfl
      rw [List.length_append, hfl, h3']
      omega
theorem endCells {w : World} {base g cap : Nat} {e : TypeId} {O : List R3} {a f t : Int} (h : w.ownsRow base e 3 (.slice (some ⟨g, 0, none⟩) (O.length + 1) cap) (O.length + 1) (flatE encR (O ++ [(a, f, t)]))) :
    w.cell? ⟨g, O.length * 3, none⟩ = some (.int .i64 a) ∧ w.cell? ⟨g, O.length * 3 + 2, none⟩ = some (.int .i64 t) ∧ w.frozen? ⟨g, O.length * 3 + 2, none⟩ = false := by
  rcases h.2 with ⟨h0, -⟩ | ⟨g', cap', cur, hv, hb, hh, h1, h2, h3, h4⟩
  · cases h0
  cases hv
  have hl : (O ++ [(a, f, t)])[O.length]? = some (a, f, t) := by simp
  have key : ∀ i v, i < 3 → (encR (a, f, t))[i]? = some v → w.cell? ⟨g, O.length * 3 + i, none⟩ = some v := by
    intro i v hi hv
    have e4 := flatE_get encR_len (O ++ [(a, f, t)]) O.length i _ _ hl hv
    have e5 : (cur.toList.take ((O.length + 1) * 3))[O.length * 3 + i]? = some v := by rw [h4]; exact e4
    rw [List.getElem?_take_of_lt (by omega), Array.getElem?_toList] at e5
    simp only [World.cell?, hh]
    simpa using e5
  exact ⟨key 0 _ (by omega) rfl, key 2 _ (by omega) rfl, by simp [World.frozen?, hh]⟩

set_option maxRecDepth 100000 in
set_option maxHeartbeats 8000000 in
theorem runs_ref (W H S : Int) (vL : Value) (b N : Nat) (P : Int → Int → Bool) (w : World) (hW : 1 ≤ W ∧ W ≤ 256) (hH : 1 ≤ H ∧ H ≤ 256) (hS : SetC w b N P) :
    Calls Tryd.prog 54 #[.agg #[.int .i64 W, .int .i64 H, .int .i64 S, vL], .map (some b)] w fun e w' =>
      (∃ v, e = .returned (.tuple #[v, .int .i64 (if (refR P W.toNat H.toNat).length ≤ 8192 then 0 else 3)]) ∧ Runs w' v (if (refR P W.toNat H.toNat).length ≤ 8192 then refR P W.toNat H.toNat else [])) ∧ Below w.heap.size w w' := by
  obtain ⟨E, hE⟩ : ∃ E : Int, (if (refR P W.toNat H.toNat).length ≤ 8192 then 0 else 3) = E := ⟨_, rfl⟩
  obtain ⟨RL, hRL⟩ : ∃ RL : List R3, (if (refR P W.toNat H.toNat).length ≤ 8192 then refR P W.toNat H.toNat else []) = RL := ⟨_, rfl⟩
  rw [hE, hRL]
  have HE := Lib.hid hE
  have HRL := Lib.hid hRL
  clear hE hRL
  have hbl := hS.lt
  go_enter Tryd.func54, Tryd.ntmps54
  go_wp2_with fail
  have b1 : Below w.heap.size w (w.alloc (.cells #[.int .i64 W, .int .i64 H, .int .i64 S, vL] 37)) := (Below.refl w.heap.size w).alloc (Nat.le_refl _) _
  have c0 : (w.alloc (.cells #[.int .i64 W, .int .i64 H, .int .i64 S, vL] 37)).cell? ⟨w.heap.size, 0, none⟩ = some (.int .i64 W) := by simp [go_sem]
  have c1 : (w.alloc (.cells #[.int .i64 W, .int .i64 H, .int .i64 S, vL] 37)).cell? ⟨w.heap.size, 1, none⟩ = some (.int .i64 H) := by simp [go_sem]
  have z1 : (w.alloc (.cells #[.int .i64 W, .int .i64 H, .int .i64 S, vL] 37)).heap.size = w.heap.size + 1 := by simp
  obtain ⟨w1, hw1⟩ : ∃ w1, w.alloc (.cells #[.int .i64 W, .int .i64 H, .int .i64 S, vL] 37) = w1 := ⟨_, rfl⟩
  rw [hw1] at b1 c0 c1 z1 ⊢
  clear hw1
  obtain ⟨B, hB⟩ : ∃ B, w.heap.size = B := ⟨_, rfl⟩
  have HS : Hid (∀ w', Below B w w' → SetC w' b N P) := Lib.hid (fun w' hb => hS.below (by rw [hB]; exact hb))
  rw [hB] at b1 c0 c1 z1 hbl ⊢
  obtain ⟨nW, hnW⟩ : ∃ n : Nat, W = n := ⟨W.toNat, by omega⟩
  subst hnW
  clear hS
  go_loopw [6, 7] (fun o i wr => ∃ k : Nat, (k : Int) ≤ H ∧ i = .int .i64 k ∧ wr.ownsRow (B + 1) 39 3 o (rowsR (fun y => runRow (fun x => P x y) nW) k).length (flatE encR (rowsR (fun y => runRow (fun x => P x y) nW) k)) ∧ wr.cell? ⟨B, 0, none⟩ = some (.int .i64 (nW : Int)) ∧ wr.cell? ⟨B, 1, none⟩ = some (.int .i64 H) ∧ Below B w wr ∧ B + 1 ≤ wr.heap.size) (fun _ i _ => H.toNat - (intOf i).toNat)
  case atStart => exact ⟨0, by simp; omega, rfl, World.ownsRow_nil _ _ _ _, c0, c1, b1, by omega⟩
  case round =>
    obtain ⟨k, hk, rfl, hown, d0, d1, hb, hz⟩ := hrel
    clear c0 c1 b1 z1
    by_cases hlt : (k : Int) < H
    · obtain ⟨L, hL⟩ : ∃ L, rowsR (fun y => runRow (fun x => P x y) nW) k = L := ⟨_, rfl⟩
      have hLl : L.length ≤ 65536 := by
        rw [← hL]
        have h1 := rowsR_lenW (f := fun y x => P x y) (W := nW) k
        have := Nat.mul_le_mul (show k ≤ 256 by omega) (show nW ≤ 256 by omega)
        omega
      have hrows : ∀ r, r ∈ L → r.1 < (k : Int) := fun r hr => by rw [← hL] at hr; exact rowsR_rows hr
      rw [hL] at hown
      have HL := Lib.hid hL
      have HRows := Lib.hid hrows
      clear hL hrows
      have hB1 : B < wr.heap.size := by omega
      go_wp2_with fail
      go_loopw [6, 8] (fun o i wq => ∃ j : Nat, j ≤ nW ∧ i = .int .i64 j ∧ wq.ownsRow (B + 1) 39 3 o (L ++ rowR k (runRow (fun x => P x k) j)).length (flatE encR (L ++ rowR k (runRow (fun x => P x k) j))) ∧ wq.cell? ⟨B, 0, none⟩ = some (.int .i64 (nW : Int)) ∧ wq.cell? ⟨B, 1, none⟩ = some (.int .i64 H) ∧ Below B w wq ∧ B + 1 ≤ wq.heap.size) (fun _ i _ => nW - (intOf i).toNat)
      case atStart => exact ⟨0, Nat.zero_le _, rfl, by simpa [runRow, rowR] using hown, d0, d1, hb, hz⟩
      case round =>
        obtain ⟨j, hj, rfl, hown, d0, d1, hb, hz⟩ := hrel
        by_cases hjl : j < nW
        · have hjI : (j : Int) < (nW : Int) := by omega
          have hMl : (L ++ rowR k (runRow (fun x => P x k) j)).length ≤ 65536 + 256 := by
            have := runRow_len (fun x => P x k) j
            simp only [List.length_append, rowR, List.length_map]
            omega
          have hstep : L ++ rowR k (runRow (fun x => P x k) (j + 1)) = if P j k = true then stepR (L ++ rowR k (runRow (fun x => P x k) j)) k j else L ++ rowR k (runRow (fun x => P x k) j) := by
            simp only [runRow]
            by_cases hP : P j k = true
            · rw [if_pos hP, if_pos hP, stepR_row HRows.out]
            · rw [if_neg hP, if_neg hP]
          obtain ⟨M, hM⟩ : ∃ M, L ++ rowR k (runRow (fun x => P x k) j) = M := ⟨_, rfl⟩
          rw [hM] at hown hMl hstep
          have HStep := Lib.hid hstep
          have ix : isI64 (j : Int) := isI64_of (by omega)
          have iy : isI64 (k : Int) := isI64_of (by omega)
          have hSr := HS.out wr hb
          clear hM hstep
          cases hPv : P j k with
          | false =>
            have HPv := Lib.hid hPv
            go_wp2_with (at_lookup; refine wpList_lookup_setC _ rfl _ _ 81 rfl setT b N P rfl hSr (j : Int) (k : Int) rfl ix iy ?_; rw [hPv])
            go_roundw
            case rel => exact ⟨j + 1, by omega, by go_num, by rw [HStep.out, if_neg (by rw [HPv.out]; exact Bool.false_ne_true)]; exact hown, d0, d1, hb, hz⟩
            case measure => simp [intOf]; omega
          | true =>
            have HPv := Lib.hid hPv
            have hB1 : B < wr.heap.size := by omega
            obtain ⟨i0, hi, hz0, hz1, hz2⟩ := info_parts infoRun
            have hown4 := hown.alloc (.cells #[.int .i64 (k : Int), .int .i64 (j : Int), .int .i64 ((j : Int) + 1)] 39)
            have hBq : B + 1 ≤ (wr.alloc (.cells #[.int .i64 (k : Int), .int .i64 (j : Int), .int .i64 ((j : Int) + 1)] 39)).heap.size := by simp; omega
            have ej : wrap64 ((j : Int) + 1) = (j : Int) + 1 := wrapId _ (by omega) (by omega)
            have EJ := Lib.hid ej
            clear ej
            rcases List.eq_nil_or_concat M with rfl | ⟨O, ⟨a, f, t⟩, rfl⟩
            · obtain ⟨q, c2, rfl⟩ : ∃ q c2, u6 = .slice q 0 c2 := by
                rcases hown.2 with ⟨rfl, -⟩ | ⟨g', cap', cur, rfl, -⟩
                · exact ⟨_, _, rfl⟩
                · exact ⟨_, _, rfl⟩
              have hob : ∀ g, (Value.slice q 0 c2).ownBlock = some g → B + 1 ≤ g ∧ g < wr.heap.size := fun g hg => ownBlock_lt hown hg
              simp only [List.length_nil] at hown4 hown
              go_wp2_with (first | (at_lookup; refine wpList_lookup_setC _ rfl _ _ 81 rfl setT b N P rfl hSr (j : Int) (k : Int) rfl ix iy ?_; rw [hPv]) | (at_builtin; refine wpList_append_lies _ rfl _ _ _ rfl (B + 1) 39 i0 _ 3 24 Tryd.underlying35 hi hz0 hz1 hz2 rfl (by omega) _ 0 (flatE encR []) rfl hown4 ⟨wr.heap.size, 0, none⟩ 1 1 [.int .i64 (k : Int), .int .i64 (j : Int), .int .i64 ((j : Int) + 1)] rfl rfl (newsLit (cs := #[.int .i64 (k : Int), .int .i64 (j : Int), .int .i64 ((j : Int) + 1)]) (by simp)) (by simp [Value.oneCell']) (by omega) (by unfold maxLen; omega) (by omega) hBq (wr.heap.size + 1) (by simp) ?_; intro gg cap5 w5 hown5 hgrow hat hlt5))
              have hb5 : Below B w w5 := (hb.alloc (by omega) _).grown hgrow (by simp; omega) (fun q hq => by have := (hob _ hq).1; omega)
              have hne5 : some B ≠ (Value.slice q 0 c2).ownBlock := fun e => by have := (hob _ e.symm).1; omega
              have d0 := (hgrow.cell_far ⟨B, 0, none⟩ (by simp; omega) hne5).trans ((World.cell?_alloc_lt wr _ ⟨B, 0, none⟩ hB1).trans d0)
              have d1 := (hgrow.cell_far ⟨B, 1, none⟩ (by simp; omega) hne5).trans ((World.cell?_alloc_lt wr _ ⟨B, 1, none⟩ hB1).trans d1)
              have hz5 : B + 1 ≤ w5.heap.size := by have := hgrow.size; simp at this; omega
              go_roundw
              case rel =>
                refine ⟨j + 1, by omega, by go_num, ?_, d0, d1, hb5, hz5⟩
                rw [HStep.out, if_pos HPv.out, stepR_nil]
                exact hown5
              case measure => simp [intOf]; omega
            · rw [List.concat_eq_append] at hown hown4 hMl HStep
              obtain ⟨g2, c2, rfl⟩ : ∃ g2 c2, u6 = .slice (some ⟨g2, 0, none⟩) (O.length + 1) c2 := by
                rcases hown.2 with ⟨-, h0⟩ | ⟨g', cap', cur, rfl, -⟩
                · simp at h0
                · exact ⟨g', cap', by simp⟩
              simp only [List.length_append, List.length_cons, List.length_nil, Nat.zero_add] at hown hown4 hMl
              obtain ⟨p0, p2, f2⟩ := endCells hown
              have hob : ∀ g, (Value.slice (some ⟨g2, 0, none⟩) (O.length + 1) c2).ownBlock = some g → B + 1 ≤ g ∧ g < wr.heap.size := fun g hg => ownBlock_lt hown hg
              have hgb := hob g2 rfl
              obtain ⟨hgB, hgl⟩ := hgb
              obtain ⟨m, hm⟩ : ∃ m, O.length = m := ⟨_, rfl⟩
              rw [hm] at hown4 p0 p2 f2 hMl hob ⊢
              have hj0 : (0 : Int) ≤ (m : Int) := by omega
              have hj1 : (m : Int) < (m : Int) + 1 := by omega
              have HOwn := Lib.hid hown
              have HM := Lib.hid hm
              clear hm hown
              by_cases hak : a = (k : Int)
              · subst hak
                by_cases htj : t = (j : Int)
                · subst htj
                  go_wp2_with (first | (at_lookup; refine wpList_lookup_setC _ rfl _ _ 81 rfl setT b N P rfl hSr (j : Int) (k : Int) rfl ix iy ?_; rw [hPv]))
                  have hbS : Below (B + 1) wr (wr.setCell ⟨g2, m * 3 + 2, none⟩ (.int .i64 ((j : Int) + 1))) := (Below.refl _ _).setCell (p := ⟨g2, m * 3 + 2, none⟩) hgB _
                  have hse := ownsEnd ((j : Int) + 1) HOwn.out
                  rw [HM.out] at hse
                  have HSE := Lib.hid hse
                  clear hse
                  go_roundw
                  case rel =>
                    refine ⟨j + 1, by omega, by go_num, ?_, (hbS.cell (p := ⟨B, 0, none⟩) (by show B < B + 1; omega)).trans d0, (hbS.cell (p := ⟨B, 1, none⟩) (by show B < B + 1; omega)).trans d1, hb.setCell (p := ⟨g2, m * 3 + 2, none⟩) (by show B ≤ g2; omega) _, by have := hbS.size; omega⟩
                    rw [HStep.out, if_pos HPv.out, stepR_in ⟨rfl, rfl⟩, List.length_append, HM.out]
                    exact HSE.out
                  case measure => simp [intOf]; omega
                · go_wp2_with (first | (at_lookup; refine wpList_lookup_setC _ rfl _ _ 81 rfl setT b N P rfl hSr (j : Int) (k : Int) rfl ix iy ?_; rw [hPv]) | (at_builtin; refine wpList_append_lies _ rfl _ _ _ rfl (B + 1) 39 i0 _ 3 24 Tryd.underlying35 hi hz0 hz1 hz2 rfl (by omega) _ (m + 1) (flatE encR (O ++ [((k : Int), f, t)])) rfl hown4 ⟨wr.heap.size, 0, none⟩ 1 1 [.int .i64 (k : Int), .int .i64 (j : Int), .int .i64 ((j : Int) + 1)] rfl rfl (newsLit (cs := #[.int .i64 (k : Int), .int .i64 (j : Int), .int .i64 ((j : Int) + 1)]) (by simp)) (by simp [Value.oneCell']) (by omega) (by unfold maxLen; omega) (by omega) hBq (wr.heap.size + 1) (by simp) ?_; intro gg cap5 w5 hown5 hgrow hat hlt5))
                  have hb5 : Below B w w5 := (hb.alloc (by omega) _).grown hgrow (by simp; omega) (fun q hq => by have := (hob _ hq).1; omega)
                  have hne5 : some B ≠ (Value.slice (some ⟨g2, 0, none⟩) (m + 1) c2).ownBlock := fun e => by have := (hob _ e.symm).1; omega
                  have d0 := (hgrow.cell_far ⟨B, 0, none⟩ (by simp; omega) hne5).trans ((World.cell?_alloc_lt wr _ ⟨B, 0, none⟩ hB1).trans d0)
                  have d1 := (hgrow.cell_far ⟨B, 1, none⟩ (by simp; omega) hne5).trans ((World.cell?_alloc_lt wr _ ⟨B, 1, none⟩ hB1).trans d1)
                  have hz5 : B + 1 ≤ w5.heap.size := by have := hgrow.size; simp at this; omega
                  go_roundw
                  case rel =>
                    refine ⟨j + 1, by omega, by go_num, ?_, d0, d1, hb5, hz5⟩
                    rw [HStep.out, if_pos HPv.out, stepR_out (fun h => htj h.2)]
                    rw [flatE_append, List.length_append, List.length_append, HM.out]; exact hown5
                  case measure => simp [intOf]; omega
              · go_wp2_with (first | (at_lookup; refine wpList_lookup_setC _ rfl _ _ 81 rfl setT b N P rfl hSr (j : Int) (k : Int) rfl ix iy ?_; rw [hPv]) | (at_builtin; refine wpList_append_lies _ rfl _ _ _ rfl (B + 1) 39 i0 _ 3 24 Tryd.underlying35 hi hz0 hz1 hz2 rfl (by omega) _ (m + 1) (flatE encR (O ++ [(a, f, t)])) rfl hown4 ⟨wr.heap.size, 0, none⟩ 1 1 [.int .i64 (k : Int), .int .i64 (j : Int), .int .i64 ((j : Int) + 1)] rfl rfl (newsLit (cs := #[.int .i64 (k : Int), .int .i64 (j : Int), .int .i64 ((j : Int) + 1)]) (by simp)) (by simp [Value.oneCell']) (by omega) (by unfold maxLen; omega) (by omega) hBq (wr.heap.size + 1) (by simp) ?_; intro gg cap5 w5 hown5 hgrow hat hlt5))
                have hb5 : Below B w w5 := (hb.alloc (by omega) _).grown hgrow (by simp; omega) (fun q hq => by have := (hob _ hq).1; omega)
                have hne5 : some B ≠ (Value.slice (some ⟨g2, 0, none⟩) (m + 1) c2).ownBlock := fun e => by have := (hob _ e.symm).1; omega
                have d0 := (hgrow.cell_far ⟨B, 0, none⟩ (by simp; omega) hne5).trans ((World.cell?_alloc_lt wr _ ⟨B, 0, none⟩ hB1).trans d0)
                have d1 := (hgrow.cell_far ⟨B, 1, none⟩ (by simp; omega) hne5).trans ((World.cell?_alloc_lt wr _ ⟨B, 1, none⟩ hB1).trans d1)
                have hz5 : B + 1 ≤ w5.heap.size := by have := hgrow.size; simp at this; omega
                go_roundw
                case rel =>
                  refine ⟨j + 1, by omega, by go_num, ?_, d0, d1, hb5, hz5⟩
                  rw [HStep.out, if_pos HPv.out, stepR_out (fun h => hak h.1)]
                  rw [flatE_append, List.length_append, List.length_append, HM.out]; exact hown5
                case measure => simp [intOf]; omega
        · have hje : j = nW := by omega
          subst hje
          go_wp2_with fail
          go_roundw
          case rel => exact ⟨k + 1, by push_cast; omega, by go_num, by rw [rowsR_succ, HL.out]; exact hown, d0, d1, hb, hz⟩
          case measure => simp [intOf]; omega
    · have hke : (k : Int) = H := by omega
      have hkn : H.toNat = k := by omega
      have hfin := Lst_of_own encR_len hown rfl
      have href : refR P (nW : Int).toNat H.toNat = rowsR (fun y => runRow (fun x => P x y) nW) k := by
        unfold refR
        rw [hkn, Int.toNat_natCast]
      have hE := HE.out
      have hR := HRL.out
      rw [href] at hE hR
      obtain ⟨M, hM⟩ : ∃ M, rowsR (fun y => runRow (fun x => P x y) nW) k = M := ⟨_, rfl⟩
      rw [hM] at hE hR hfin
      obtain ⟨A, c, rfl, -⟩ := (show Runs wr u6 M from hfin)
      obtain ⟨m, hm⟩ : ∃ m, M.length = m := ⟨_, rfl⟩
      rw [hm] at hE hR
      have HF := Lib.hid hfin
      clear hown hfin href hkn hM
      by_cases hl : m ≤ 8192
      · rw [if_pos hl] at hE hR
        subst hE
        have hRR := Lib.hid hR
        clear hR
        have hl2 : ¬ (8192 : Int) < (m : Int) := by omega
        rw [hm]
        go_wp2_with fail
        refine bodyPost_ret (v := .tuple #[.slice A m c, .int .i64 0]) (by simp [results, Tryd.results54, go_sem]) rfl ⟨⟨_, rfl, by rw [← hRR.out]; rw [← hm]; exact HF.out⟩, by first | exact hb | (rw [hB]; exact hb)⟩
      · rw [if_neg hl] at hE hR
        subst hE
        have hRR := Lib.hid hR
        clear hR
        have hl2 : (8192 : Int) < (m : Int) := by omega
        rw [hm]
        go_wp2_with fail
        refine bodyPost_ret (v := .tuple #[.slice none 0 0, .int .i64 3]) (by simp [results, Tryd.results54, go_sem]) rfl ⟨⟨_, rfl, by rw [← hRR.out]; exact Lst.nil _⟩, by first | exact hb | (rw [hB]; exact hb)⟩
end Go.Proofs.YtnbdnnbeiohmgaaDoor
