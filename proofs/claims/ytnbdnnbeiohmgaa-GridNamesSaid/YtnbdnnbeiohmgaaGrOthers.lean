/- grid.others. -/
import Derived.Test.YtnbdnnbeiohmgaaGrAll
namespace Go.Proofs.Ytnbdnnbeiohmgaa
open Go.RowKit Go.Shelf Go.Lib

/-- the runs between those of a row: what is laid, where it stands, what is left -/
def othIn (y : Int) : Int → List R3 → List R3 × Int × List R3
  | p, [] => ([], p, [])
  | p, r :: l => if r.1 = y then ((if p < r.2.1 then [(y, p, r.2.1)] else []) ++ (othIn y r.2.2 l).1, (othIn y r.2.2 l).2) else ([], p, r :: l)
def othRow (W y : Int) (l : List R3) : List R3 × List R3 := ((othIn y 0 l).1 ++ (if (othIn y 0 l).2.1 < W then [(y, (othIn y 0 l).2.1, W)] else []), (othIn y 0 l).2.2)
def othF (W : Int) (l : List R3) : Nat → List R3 × List R3
  | 0 => ([], l)
  | n + 1 => ((othF W l n).1 ++ (othRow W n (othF W l n).2).1, (othRow W n (othF W l n).2).2)
theorem othIn_len (y : Int) : ∀ (l : List R3) (p : Int), (othIn y p l).1.length + (othIn y p l).2.2.length ≤ l.length := by
  intro l
  induction l with
  | nil => intro p; simp [othIn]
  | cons r l ih =>
    intro p
    simp only [othIn]
    by_cases h : r.1 = y
    · rw [if_pos h]
      have := ih r.2.2
      simp only [List.length_append, List.length_cons]
      split <;> simp <;> omega
    · rw [if_neg h]
      simp
theorem othF_len (W : Int) (l : List R3) : ∀ n, (othF W l n).1.length + (othF W l n).2.length ≤ l.length + n := by
  intro n
  induction n with
  | zero => simp [othF]
  | succ n ih =>
    have := othIn_len (n : Int) (othF W l n).2 0
    simp only [othF, othRow, List.length_append]
    split <;> simp <;> omega

/-- what Go's s[1:] is -/
theorem Runs.rest {w : World} {x : R3} {l : List R3} {b off n c : Nat} (h : Runs w (.slice (some ⟨b, off, none⟩) (n + 1) c) (x :: l)) : Runs w (.slice (if c = 1 then some ⟨b, off, none⟩ else some ⟨b, off + 3, none⟩) n (c - 1)) l := by
  have hn : n = l.length := by have := h.len; simpa using this
  obtain ⟨b', off', e', ht⟩ := h.tail
  cases e'
  by_cases hc : c = 1
  · obtain ⟨A', c', e, h1, h2, -⟩ := h
    cases e
    have hl : l = [] := List.eq_nil_of_length_eq_zero (by simp at h1; omega)
    subst hl
    exact ⟨_, _, rfl, by simp, by unfold maxLen at h2 ⊢; omega, fun h => by simp at h⟩
  · rw [if_neg hc]
    simpa using ht

set_option maxRecDepth 100000 in
set_option maxHeartbeats 16000000 in
theorem others_gr (W H S : Int) (vL v : Value) (l : List R3) (w : World) (hW : 1 ≤ W ∧ W ≤ 256) (hH : 1 ≤ H ∧ H ≤ 256) (hl : Runs w v l) (hll : l.length ≤ 1000000) :
    Calls Try.prog 68 #[.agg #[.int .i64 W, .int .i64 H, .int .i64 S, vL], v] w fun e w' => (∃ u, e = .returned u ∧ Runs w' u (othF W l H.toNat).1 ∧ ∀ g, u.ownBlock = some g → w.heap.size ≤ g ∧ g < w'.heap.size) ∧ Below w.heap.size w w' := by
  have b1 : Below w.heap.size w (w.alloc (.cells #[.int .i64 W, .int .i64 H, .int .i64 S, vL] 24)) := (Below.refl w.heap.size w).alloc (Nat.le_refl _) _
  have HL := Lib.hid hl
  obtain ⟨A, c, rfl, -⟩ := hl
  go_enter Try.func68, Try.ntmps68
  go_wp2_with fail
  have c0 : (w.alloc (.cells #[.int .i64 W, .int .i64 H, .int .i64 S, vL] 24)).cell? ⟨w.heap.size, 0, none⟩ = some (.int .i64 W) := by simp [go_sem]
  have c1 : (w.alloc (.cells #[.int .i64 W, .int .i64 H, .int .i64 S, vL] 24)).cell? ⟨w.heap.size, 1, none⟩ = some (.int .i64 H) := by simp [go_sem]
  have z1 : (w.alloc (.cells #[.int .i64 W, .int .i64 H, .int .i64 S, vL] 24)).heap.size = w.heap.size + 1 := by simp
  obtain ⟨w1, hw1⟩ : ∃ w1, w.alloc (.cells #[.int .i64 W, .int .i64 H, .int .i64 S, vL] 24) = w1 := ⟨_, rfl⟩
  rw [hw1] at b1 c0 c1 z1 ⊢
  clear hw1
  obtain ⟨B, hB⟩ : ∃ B, w.heap.size = B := ⟨_, rfl⟩
  rw [hB] at b1 c0 c1 z1 ⊢
  go_loopw [1, 5, 10] (fun r o i wr => ∃ k : Nat, (k : Int) ≤ H ∧ i = .int .i64 k ∧ Runs w r (othF W l k).2 ∧ wr.ownsRow (B + 1) 72 3 o (othF W l k).1.length (flatE encR (othF W l k).1) ∧ wr.cell? ⟨B, 0, none⟩ = some (.int .i64 W) ∧ wr.cell? ⟨B, 1, none⟩ = some (.int .i64 H) ∧ Below B w wr ∧ B + 1 ≤ wr.heap.size) (fun _ _ i _ => H.toNat - (intOf i).toNat)
  case atStart => exact ⟨0, by simp; omega, rfl, HL.out, World.ownsRow_nil _ _ _ _, c0, c1, b1, by omega⟩
  case round =>
    obtain ⟨k, hk, rfl, hr, hown, d0, d1, hb, hz⟩ := hrel
    clear c0 c1 b1 z1
    by_cases hlt : (k : Int) < H
    · obtain ⟨O, hO⟩ : ∃ O, (othF W l k).1 = O := ⟨_, rfl⟩
      obtain ⟨r0, hr0⟩ : ∃ r0, (othF W l k).2 = r0 := ⟨_, rfl⟩
      have hfl := othF_len W l k
      rw [hO] at hown hfl
      rw [hr0] at hr hfl
      have hkk : k ≤ 255 := by omega
      obtain ⟨Z, hZ⟩ : ∃ Z, othIn (k : Int) 0 r0 = Z := ⟨_, rfl⟩
      have HO := Lib.hid hO
      have HR0 := Lib.hid hr0
      have HZ := Lib.hid hZ
      obtain ⟨A2, c2, rfl, -⟩ := (show Runs w u1 r0 from hr)
      have HRr := Lib.hid hr
      clear hO hr0 hZ hr
      go_wp2_with fail
      obtain ⟨V1, hV1⟩ : ∃ V1 : Value, V1 = .slice A2 r0.length c2 := ⟨_, rfl⟩
      rw [← hV1] at HRr ⊢
      clear hV1
      go_loopw [1, 5, 7] (fun r o p wq => ∃ (pp : Int) (E : List R3) (rr : List R3), p = .int .i64 pp ∧ Runs w r rr ∧ wq.ownsRow (B + 1) 72 3 o (O ++ E).length (flatE encR (O ++ E)) ∧ Hid (E ++ (othIn (k : Int) pp rr).1 = Z.1 ∧ (othIn (k : Int) pp rr).2 = Z.2) ∧ E.length + rr.length ≤ r0.length ∧
          wq.cell? ⟨B, 0, none⟩ = some (.int .i64 W) ∧ wq.cell? ⟨B, 1, none⟩ = some (.int .i64 H) ∧ Below B w wq ∧ B + 1 ≤ wq.heap.size) (fun r _ _ _ => match r with | .slice _ n _ => n | _ => 0)
      case atStart => exact ⟨0, [], r0, rfl, HRr.out, by simpa using hown, ⟨by rw [HZ.out]; rfl, by rw [HZ.out]⟩, by simp, d0, d1, hb, hz⟩
      case round =>
        obtain ⟨pp, E, rr, rfl, hrr, hown, hZZ, hEl, d0, d1, hb, hz⟩ := hrel
        cases rr with
        | nil =>
          obtain ⟨A4, c4, rfl, -⟩ := (show Runs w u1 [] from hrr)
          have hnil : (othIn (k : Int) pp []) = ([], pp, []) := rfl
          rw [hnil] at hZZ
          simp only [List.append_nil] at hZZ
          have hs2 : (othF W l (k + 1)).2 = [] := by simp only [othF, othRow]; rw [HR0.out, HZ.out, ← hZZ.2]
          have HS2 := Lib.hid hs2
          have HRr2 := Lib.hid hrr
          clear hs2 hrr
          by_cases hpW : pp < W
          · have hs1 : (othF W l (k + 1)).1 = (O ++ E) ++ [((k : Int), pp, W)] := by
              simp only [othF, othRow]
              rw [HO.out, HR0.out, HZ.out, ← hZZ.1, ← hZZ.2]
              simp [hpW]
            have HS1 := Lib.hid hs1
            clear hs1
            have hLl : (O ++ E).length ≤ 2000000 := by simp only [List.length_append]; omega
            obtain ⟨LL, hLL⟩ : ∃ q, O ++ E = q := ⟨_, rfl⟩
            rw [hLL] at hown hLl
            obtain ⟨i0, hi, hz0, hz1, hz2⟩ := info_parts infoRun
            have hown4 := hown.alloc (.cells #[.int .i64 (k : Int), .int .i64 pp, .int .i64 W] 72)
            have hBq : B + 1 ≤ (wr.alloc (.cells #[.int .i64 (k : Int), .int .i64 pp, .int .i64 W] 72)).heap.size := by simp; omega
            go_wp2_with (at_builtin; refine wpList_append_lies _ rfl _ _ _ rfl (B + 1) 72 i0 _ 3 24 Try.underlying22 hi hz0 hz1 hz2 rfl (by omega) u5 LL.length (flatE encR LL) rfl hown4 ⟨wr.heap.size, 0, none⟩ 1 1 [.int .i64 (k : Int), .int .i64 pp, .int .i64 W] rfl rfl (newsLit (cs := #[.int .i64 (k : Int), .int .i64 pp, .int .i64 W]) (by simp)) (by simp [Value.oneCell']) (by omega) (by unfold maxLen; omega) (by omega) hBq (wr.heap.size + 1) (by simp) ?_; intro gg cap5 w5 hown5 hgrow hat hlt5)
            have hb5 : Below B w w5 := (hb.alloc (by omega) _).grown hgrow (by simp; omega) (fun q hq => by have := (ownBlock_lt hown hq).1; omega)
            have hne5 : some B ≠ u5.ownBlock := fun e => by have := (ownBlock_lt hown e.symm).1; omega
            have d0 := (hgrow.cell_far ⟨B, 0, none⟩ (by simp; omega) hne5).trans ((World.cell?_alloc_lt wr _ ⟨B, 0, none⟩ (by show B < wr.heap.size; omega)).trans d0)
            have d1 := (hgrow.cell_far ⟨B, 1, none⟩ (by simp; omega) hne5).trans ((World.cell?_alloc_lt wr _ ⟨B, 1, none⟩ (by show B < wr.heap.size; omega)).trans d1)
            have hz5 : B + 1 ≤ w5.heap.size := by have := hgrow.size; simp at this; omega
            have hown5 : w5.ownsRow (B + 1) 72 3 (.slice (some ⟨gg, 0, none⟩) (LL.length + 1) cap5) (LL ++ [((k : Int), pp, W)]).length (flatE encR (LL ++ [((k : Int), pp, W)])) := by rw [flatE_append, List.length_append]; exact hown5
            go_roundw
            case rel => exact ⟨k + 1, by push_cast; omega, by go_num, by rw [HS2.out]; exact HRr2.out, by rw [HS1.out, hLL]; exact hown5, d0, d1, hb5, hz5⟩
            case measure => simp [intOf]; omega
          · have hs1 : (othF W l (k + 1)).1 = O ++ E := by
              simp only [othF, othRow]
              rw [HO.out, HR0.out, HZ.out, ← hZZ.1, ← hZZ.2]
              simp [hpW]
            have HS1 := Lib.hid hs1
            clear hs1
            have hpW' : W ≤ pp := by omega
            go_wp2_with fail
            go_roundw
            case rel => exact ⟨k + 1, by push_cast; omega, by go_num, by rw [HS2.out]; exact HRr2.out, by rw [HS1.out]; exact hown, d0, d1, hb, hz⟩
            case measure => simp [intOf]; omega
        | cons x rr =>
          obtain ⟨y, f, t⟩ := x
          obtain ⟨A4, c4, rfl, -, -, h3⟩ := (show Runs w u1 ((y, f, t) :: rr) from hrr)
          obtain ⟨b4, o4, rfl, hl4, hc4⟩ := h3 (by simp)
          have m0 := (hb.cell (p := ⟨b4, o4 + 0 * 3 + 0, none⟩) (by show b4 < B; omega)).trans (hc4 0 0 _ _ rfl rfl)
          have m1 := (hb.cell (p := ⟨b4, o4 + 0 * 3 + 1, none⟩) (by show b4 < B; omega)).trans (hc4 0 1 _ _ rfl rfl)
          have m2 := (hb.cell (p := ⟨b4, o4 + 0 * 3 + 2, none⟩) (by show b4 < B; omega)).trans (hc4 0 2 _ _ rfl rfl)
          simp only [Nat.zero_mul, Nat.add_zero] at m0 m1 m2
          by_cases hyk : y = (k : Int)
          · subst hyk
            have hbs : b4 < wr.heap.size := by omega
            have hoc : othIn (k : Int) pp (((k : Int), f, t) :: rr) = ((if pp < f then [((k : Int), pp, f)] else []) ++ (othIn (k : Int) t rr).1, (othIn (k : Int) t rr).2) := by simp [othIn]
            rw [hoc] at hZZ
            clear hoc
            by_cases hpf : pp < f
            · rw [if_pos hpf] at hZZ
              dsimp only at hZZ
              have HZZ := Lib.hid hZZ
              have HRR := Lib.hid hrr
              have hEl' : E.length + (rr.length + 1) ≤ r0.length := by simpa using hEl
              clear hZZ hrr hc4 h3 hEl
              have hLl : (O ++ E).length ≤ 2000000 := by simp only [List.length_append]; omega
              obtain ⟨LL, hLL⟩ : ∃ q, O ++ E = q := ⟨_, rfl⟩
              rw [hLL] at hown hLl
              obtain ⟨i0, hi, hz0, hz1, hz2⟩ := info_parts infoRun
              have hown4 := hown.alloc (.cells #[.int .i64 (k : Int), .int .i64 pp, .int .i64 f] 72)
              have hBq : B + 1 ≤ (wr.alloc (.cells #[.int .i64 (k : Int), .int .i64 pp, .int .i64 f] 72)).heap.size := by simp; omega
              have hneb : some b4 ≠ u5.ownBlock := fun e => by have := (ownBlock_lt hown e.symm).1; omega
              go_wp2_with (at_builtin; refine wpList_append_lies _ rfl _ _ _ rfl (B + 1) 72 i0 _ 3 24 Try.underlying22 hi hz0 hz1 hz2 rfl (by omega) u5 LL.length (flatE encR LL) rfl hown4 ⟨wr.heap.size, 0, none⟩ 1 1 [.int .i64 (k : Int), .int .i64 pp, .int .i64 f] rfl rfl (newsLit (cs := #[.int .i64 (k : Int), .int .i64 pp, .int .i64 f]) (by simp)) (by simp [Value.oneCell']) (by omega) (by unfold maxLen; omega) (by omega) hBq (wr.heap.size + 1) (by simp) ?_; intro gg cap5 w5 hown5 hgrow hat hlt5; have m0 := (hgrow.cell_far ⟨b4, o4, none⟩ (by simp; omega) hneb).trans ((World.cell?_alloc_lt wr _ ⟨b4, o4, none⟩ hbs).trans m0); have m1 := (hgrow.cell_far ⟨b4, o4 + 1, none⟩ (by simp; omega) hneb).trans ((World.cell?_alloc_lt wr _ ⟨b4, o4 + 1, none⟩ hbs).trans m1); have m2 := (hgrow.cell_far ⟨b4, o4 + 2, none⟩ (by simp; omega) hneb).trans ((World.cell?_alloc_lt wr _ ⟨b4, o4 + 2, none⟩ hbs).trans m2))
              have hb5 : Below B w w5 := (hb.alloc (by omega) _).grown hgrow (by simp; omega) (fun q hq => by have := (ownBlock_lt hown hq).1; omega)
              have hne5 : some B ≠ u5.ownBlock := fun e => by have := (ownBlock_lt hown e.symm).1; omega
              have d0 := (hgrow.cell_far ⟨B, 0, none⟩ (by simp; omega) hne5).trans ((World.cell?_alloc_lt wr _ ⟨B, 0, none⟩ (by show B < wr.heap.size; omega)).trans d0)
              have d1 := (hgrow.cell_far ⟨B, 1, none⟩ (by simp; omega) hne5).trans ((World.cell?_alloc_lt wr _ ⟨B, 1, none⟩ (by show B < wr.heap.size; omega)).trans d1)
              have hz5 : B + 1 ≤ w5.heap.size := by have := hgrow.size; simp at this; omega
              have hown5 : w5.ownsRow (B + 1) 72 3 (.slice (some ⟨gg, 0, none⟩) (LL.length + 1) cap5) (LL ++ [((k : Int), pp, f)]).length (flatE encR (LL ++ [((k : Int), pp, f)])) := by rw [flatE_append, List.length_append]; exact hown5
              go_quiet (fail)
              go_wp2_with fail
              go_roundw
              case rel => exact ⟨t, E ++ [((k : Int), pp, f)], rr, rfl, HRR.out.rest, by rw [← List.append_assoc, hLL]; exact hown5, ⟨by rw [List.append_assoc]; exact HZZ.out.1, HZZ.out.2⟩, by simp; omega, d0, d1, belowDrewN hb5 _, hz5⟩
              case measure => simp
            · have hpf' : f ≤ pp := by omega
              rw [if_neg hpf] at hZZ
              dsimp only at hZZ
              have HZZ := Lib.hid hZZ
              have HRR := Lib.hid hrr
              have hEl' : E.length + (rr.length + 1) ≤ r0.length := by simpa using hEl
              clear hZZ hrr hc4 h3 hEl
              go_wp2_with fail
              go_quiet (fail)
              go_wp2_with fail
              go_roundw
              case rel => exact ⟨t, E, rr, rfl, HRR.out.rest, hown, ⟨HZZ.out.1, HZZ.out.2⟩, by omega, d0, d1, belowDrewN hb _, hz⟩
              case measure => simp
          · have hyk' : (y == (k : Int)) = false := by simpa using hyk
            have hnil : (othIn (k : Int) pp ((y, f, t) :: rr)) = ([], pp, (y, f, t) :: rr) := by simp [othIn, hyk]
            rw [hnil] at hZZ
            simp only [List.append_nil] at hZZ
            clear hnil hc4 h3
            have hs2 : (othF W l (k + 1)).2 = (y, f, t) :: rr := by simp only [othF, othRow]; rw [HR0.out, HZ.out, ← hZZ.2]
            have HS2 := Lib.hid hs2
            have HRr2 := Lib.hid hrr
            clear hs2 hrr
            by_cases hpW : pp < W
            · have hs1 : (othF W l (k + 1)).1 = (O ++ E) ++ [((k : Int), pp, W)] := by
                simp only [othF, othRow]
                rw [HO.out, HR0.out, HZ.out, ← hZZ.1, ← hZZ.2]
                simp [hpW]
              have HS1 := Lib.hid hs1
              clear hs1
              have hLl : (O ++ E).length ≤ 2000000 := by simp only [List.length_append]; omega
              obtain ⟨LL, hLL⟩ : ∃ q, O ++ E = q := ⟨_, rfl⟩
              rw [hLL] at hown hLl
              obtain ⟨i0, hi, hz0, hz1, hz2⟩ := info_parts infoRun
              have hown4 := hown.alloc (.cells #[.int .i64 (k : Int), .int .i64 pp, .int .i64 W] 72)
              have hBq : B + 1 ≤ (wr.alloc (.cells #[.int .i64 (k : Int), .int .i64 pp, .int .i64 W] 72)).heap.size := by simp; omega
              go_wp2_with (at_builtin; refine wpList_append_lies _ rfl _ _ _ rfl (B + 1) 72 i0 _ 3 24 Try.underlying22 hi hz0 hz1 hz2 rfl (by omega) u5 LL.length (flatE encR LL) rfl hown4 ⟨wr.heap.size, 0, none⟩ 1 1 [.int .i64 (k : Int), .int .i64 pp, .int .i64 W] rfl rfl (newsLit (cs := #[.int .i64 (k : Int), .int .i64 pp, .int .i64 W]) (by simp)) (by simp [Value.oneCell']) (by omega) (by unfold maxLen; omega) (by omega) hBq (wr.heap.size + 1) (by simp) ?_; intro gg cap5 w5 hown5 hgrow hat hlt5)
              have hb5 : Below B w w5 := (hb.alloc (by omega) _).grown hgrow (by simp; omega) (fun q hq => by have := (ownBlock_lt hown hq).1; omega)
              have hne5 : some B ≠ u5.ownBlock := fun e => by have := (ownBlock_lt hown e.symm).1; omega
              have d0 := (hgrow.cell_far ⟨B, 0, none⟩ (by simp; omega) hne5).trans ((World.cell?_alloc_lt wr _ ⟨B, 0, none⟩ (by show B < wr.heap.size; omega)).trans d0)
              have d1 := (hgrow.cell_far ⟨B, 1, none⟩ (by simp; omega) hne5).trans ((World.cell?_alloc_lt wr _ ⟨B, 1, none⟩ (by show B < wr.heap.size; omega)).trans d1)
              have hz5 : B + 1 ≤ w5.heap.size := by have := hgrow.size; simp at this; omega
              have hown5 : w5.ownsRow (B + 1) 72 3 (.slice (some ⟨gg, 0, none⟩) (LL.length + 1) cap5) (LL ++ [((k : Int), pp, W)]).length (flatE encR (LL ++ [((k : Int), pp, W)])) := by rw [flatE_append, List.length_append]; exact hown5
              go_roundw
              case rel => exact ⟨k + 1, by push_cast; omega, by go_num, by rw [HS2.out]; exact HRr2.out, by rw [HS1.out, hLL]; exact hown5, d0, d1, hb5, hz5⟩
              case measure => simp [intOf]; omega
            · have hs1 : (othF W l (k + 1)).1 = O ++ E := by
                simp only [othF, othRow]
                rw [HO.out, HR0.out, HZ.out, ← hZZ.1, ← hZZ.2]
                simp [hpW]
              have HS1 := Lib.hid hs1
              clear hs1
              have hpW' : W ≤ pp := by omega
              go_wp2_with fail
              go_roundw
              case rel => exact ⟨k + 1, by push_cast; omega, by go_num, by rw [HS2.out]; exact HRr2.out, by rw [HS1.out]; exact hown, d0, d1, hb, hz⟩
              case measure => simp [intOf]; omega
    · have hke : (k : Int) = H := by omega
      have hkn : H.toNat = k := by omega
      have hfin := Lst_of_own encR_len hown rfl
      have hob : ∀ g, u5.ownBlock = some g → B ≤ g ∧ g < wr.heap.size := fun g hg => by have := ownBlock_lt hown hg; omega
      have HF := Lib.hid hfin
      have HK := Lib.hid hkn
      have HOB := Lib.hid hob
      clear hown hfin hkn hob
      go_wp2_with fail
      go_ret
      refine ⟨⟨u5, rfl, ?_, ?_⟩, ?_⟩
      · first | exact HF.out | (rw [HK.out]; exact HF.out)
      · first | exact HOB.out | (rw [hB]; exact HOB.out)
      · first | exact hb | (rw [hB]; exact hb)
end Go.Proofs.Ytnbdnnbeiohmgaa
