/- GridMoves: pick, of, move. -/
import Derived.Deep.RegionHeld3
import Derived.Laws.EntriesVeiled
import Derived.Test.YtnbdnnbeiohmgaaGrA
import Derived.Test.YtnbdnnbeiohmgaaGrE
namespace Go.Proofs.Ytnbdnnbeiohmgaa
open Go.RowKit

theorem tmod_in {t n : Int} (ht : 0 ≤ t) (hn : 1 ≤ n) : 0 ≤ t.tmod n ∧ t.tmod n < n := by
  rw [Int.tmod_eq_emod_of_nonneg ht]
  exact ⟨Int.emod_nonneg _ (by omega), Int.emod_lt_of_pos _ (by omega)⟩

end Go.Proofs.Ytnbdnnbeiohmgaa
/- GridLong: combs are valid regions. -/
namespace Go.Proofs.Ytnbdnnbeiohmgaa
open Go.RowKit Go.Shelf

/-- the last run, or the one ahead of all -/
def lastOr (p : R3) (l : List R3) : R3 := l.getLast?.getD p
theorem rightL_snoc (W H : Int) (x : R3) : ∀ (l : List R3) (p : R3), rightL W H p (l ++ [x]) = (rightL W H p l && okR W H (lastOr p l) x)
  | [], p => by simp [rightL, lastOr]
  | y :: l, p => by
    have h := rightL_snoc W H x l y
    have e : lastOr p (y :: l) = lastOr y l := by
      cases l with
      | nil => rfl
      | cons z l => simp [lastOr, List.getLast?_cons_cons]; cases h : (z :: l).getLast? <;> simp_all
    simp only [List.cons_append, rightL, h, e, Bool.and_assoc]
/-- a region of which each run has a cell -/
def Proper (W H : Int) (l : List R3) : Prop := rightL W H (-1, 0, 0) l = true ∧ ∀ r, r ∈ l → r.2.1 < r.2.2
/-- a comb on the way, in row y, ahead of place x -/
def Combed (H : Int) (l : List R3) (y x : Int) : Prop := Proper 256 H l ∧ (∀ r, l.getLast? = some r → r.1 < y ∨ (r.1 = y ∧ r.2.2 < x)) ∧ l.length ≤ 8192
theorem Combed.add {H y x x' : Int} {l : List R3} (h : Combed H l y x) (hy : 0 ≤ y ∧ y < H) (hx : 0 ≤ x ∧ x < 256) (hl : l.length < 8192) (hx' : x + 1 < x') : Combed H (l ++ [(y, x, x + 1)]) y x' := by
  obtain ⟨⟨h1, h2⟩, h3, h4⟩ := h
  have e : wrap64 (x + 1 - 1) = x + 1 - 1 := wrapId _ (by omega) (by omega)
  refine ⟨⟨?_, fun r hr => ?_⟩, fun r hr => ?_, by simp; omega⟩
  · rw [rightL_snoc, h1, Bool.true_and]
    unfold lastOr
    cases hg : l.getLast? with
    | none =>
      simp only [Option.getD_none, okR, inB, Bool.and_eq_true, decide_eq_true_eq, Bool.not_eq_true', Bool.and_eq_false_iff, beq_eq_false_iff_ne, decide_eq_false_iff_not, e, ne_eq]
      omega
    | some r =>
      have h5 := h3 r hg
      simp only [Option.getD_some, okR, inB, Bool.and_eq_true, decide_eq_true_eq, Bool.not_eq_true', Bool.and_eq_false_iff, beq_eq_false_iff_ne, decide_eq_false_iff_not, e, ne_eq]
      omega
  · rcases List.mem_append.1 hr with hr | hr
    · exact h2 r hr
    · simp at hr; subst hr; simp only; omega
  · simp at hr
    subst hr
    exact .inr ⟨rfl, hx'⟩
theorem Combed.row {H y x : Int} {l : List R3} (h : Combed H l y x) (x' : Int) : Combed H l (y + 1) x' :=
  ⟨h.1, fun r hr => by have := h.2.1 r hr; omega, h.2.2⟩
theorem Combed.start {H y x x' : Int} {l : List R3} (h : Combed H l y x) (hx : x ≤ x') : Combed H l y x' :=
  ⟨h.1, fun r hr => by have := h.2.1 r hr; omega, h.2.2⟩

set_option maxRecDepth 100000 in
set_option maxHeartbeats 16000000 in
theorem comb_gr (H p q : Int) (vL : Value) (w : World) (hH : 1 ≤ H ∧ H ≤ 256) (hp : 0 ≤ p ∧ p ≤ 255) (hq : 0 ≤ q ∧ q ≤ 255) :
    Calls Try.prog 19 #[.agg #[.int .i64 256, .int .i64 H, .int .i64 1, vL], .agg #[.int .u8 p, .int .u8 q]] w fun e w' =>
      (∃ v l, e = .returned v ∧ Runs w' v l ∧ Proper 256 H l ∧ 0 < l.length ∧ l.length ≤ 8192) ∧ Below w.heap.size w w' := by
  obtain ⟨s, hs⟩ : ∃ s, 2 + p.tmod 30 = s := ⟨_, rfl⟩
  have ht := tmod_in (t := p) (n := 30) hp.1 (by omega)
  obtain ⟨m, hm⟩ : ∃ m, p.tmod 30 = m := ⟨_, rfl⟩
  rw [hm] at hs ht
  obtain ⟨x0, hx0⟩ : ∃ m, q.tmod s = m := ⟨_, rfl⟩
  have hx := tmod_in (t := q) (n := s) hq.1 (by omega)
  rw [hx0] at hx
  have e1 : wrap64 p = p := wrapId _ (by omega) (by omega)
  have e2 : wrap64 q = q := wrapId _ (by omega) (by omega)
  have e3 : wrap64 m = m := wrapId _ (by omega) (by omega)
  have e4 : wrap64 (2 + m) = s := by rw [hs]; exact wrapId _ (by omega) (by omega)
  have e5 : wrap64 x0 = x0 := wrapId _ (by omega) (by omega)
  have hs0 : ¬ s = 0 := by omega
  go_enter Try.func19, Try.ntmps19
  go_wp2_with fail
  have b1 : Below w.heap.size w ((w.alloc (.cells #[.int .i64 256, .int .i64 H, .int .i64 1, vL] 24)).alloc (.cells #[.int .u8 p, .int .u8 q] 49)) := ((Below.refl w.heap.size w).alloc (Nat.le_refl _) _).alloc (by simp) _
  have c0 : ((w.alloc (.cells #[.int .i64 256, .int .i64 H, .int .i64 1, vL] 24)).alloc (.cells #[.int .u8 p, .int .u8 q] 49)).cell? ⟨w.heap.size, 0, none⟩ = some (.int .i64 256) := by simp [go_sem]
  have c1 : ((w.alloc (.cells #[.int .i64 256, .int .i64 H, .int .i64 1, vL] 24)).alloc (.cells #[.int .u8 p, .int .u8 q] 49)).cell? ⟨w.heap.size, 1, none⟩ = some (.int .i64 H) := by simp [go_sem]
  have c2 : ((w.alloc (.cells #[.int .i64 256, .int .i64 H, .int .i64 1, vL] 24)).alloc (.cells #[.int .u8 p, .int .u8 q] 49)).cell? ⟨w.heap.size + 1, 1, none⟩ = some (.int .u8 q) := by simp [go_sem]
  have z1 : ((w.alloc (.cells #[.int .i64 256, .int .i64 H, .int .i64 1, vL] 24)).alloc (.cells #[.int .u8 p, .int .u8 q] 49)).heap.size = w.heap.size + 1 + 1 := by simp
  obtain ⟨w1, hw1⟩ : ∃ w1, ((w.alloc (.cells #[.int .i64 256, .int .i64 H, .int .i64 1, vL] 24)).alloc (.cells #[.int .u8 p, .int .u8 q] 49)) = w1 := ⟨_, rfl⟩
  rw [hw1] at b1 c0 c1 c2 z1 ⊢
  clear hw1
  obtain ⟨B, hB⟩ : ∃ B, w.heap.size = B := ⟨_, rfl⟩
  rw [hB] at b1 c0 c1 c2 z1 ⊢
  have hs1 : 2 ≤ s ∧ s ≤ 31 := by omega
  have HX := Lib.hid hx
  clear hs hm ht hx
  go_loopw [5, 7] (fun o i wr => ∃ k : Nat, (k : Int) ≤ H ∧ i = .int .i64 k ∧ (∃ l, Combed H l k 0 ∧ (0 < k → 0 < l.length) ∧ wr.ownsRow (B + 1 + 1) 72 3 o l.length (flatE encR l)) ∧ wr.cell? ⟨B, 0, none⟩ = some (.int .i64 256) ∧ wr.cell? ⟨B, 1, none⟩ = some (.int .i64 H) ∧ wr.cell? ⟨B + 1, 1, none⟩ = some (.int .u8 q) ∧ Below B w wr ∧ B + 1 + 1 ≤ wr.heap.size) (fun _ i _ => H.toNat - (intOf i).toNat)
  case atStart => exact ⟨0, by simp; omega, rfl, ⟨[], ⟨⟨rfl, fun r hr => by simp at hr⟩, fun r hr => by simp at hr, by simp⟩, fun h => by omega, World.ownsRow_nil _ _ _ _⟩, c0, c1, c2, b1, by omega⟩
  case round =>
    obtain ⟨k, hk, rfl, ⟨l, hc, hne, hown⟩, d0, d1, d2, hb, hz⟩ := hrel
    clear c0 c1 c2 b1 z1
    by_cases hlt : (k : Int) < H
    · have HC := Lib.hid (hc.start HX.out.1)
      clear hc
      have hB1 : B < wr.heap.size := by omega
      have hB2 : B + 1 < wr.heap.size := by omega
      go_wp2_with fail
      go_loopw [5, 8] (fun o i wq => ∃ x : Int, i = .int .i64 x ∧ x0 ≤ x ∧ x ≤ 300 ∧ (∃ l, Combed H l k x ∧ (x0 < x → 0 < l.length) ∧ wq.ownsRow (B + 1 + 1) 72 3 o l.length (flatE encR l)) ∧ wq.cell? ⟨B, 0, none⟩ = some (.int .i64 256) ∧ wq.cell? ⟨B, 1, none⟩ = some (.int .i64 H) ∧ wq.cell? ⟨B + 1, 1, none⟩ = some (.int .u8 q) ∧ Below B w wq ∧ B + 1 + 1 ≤ wq.heap.size) (fun _ i _ => (300 - intOf i).toNat)
      case atStart => exact ⟨x0, rfl, Int.le_refl _, by have := HX.out; omega, ⟨l, HC.out, fun h => by omega, hown⟩, d0, d1, d2, hb, hz⟩
      case round =>
        obtain ⟨x, rfl, hx0', hx9, ⟨l, hc, hne, hown⟩, d0, d1, d2, hb, hz⟩ := hrel
        have hxp : 0 ≤ x := by have := HX.out.1; omega
        obtain ⟨n, hn⟩ : ∃ n, l.length = n := ⟨_, rfl⟩
        have hn8 : n ≤ 8192 := by have := hc.2.2; omega
        have HN := Lib.hid hn
        have HNE := Lib.hid hne
        have HC := Lib.hid hc
        obtain ⟨A, cp, hA⟩ : ∃ A cp, u5 = .slice A l.length cp := by
          rcases hown.2 with ⟨e, e2⟩ | ⟨g, cap, cur, e, -⟩
          · exact ⟨none, 0, by rw [e, e2]⟩
          · exact ⟨_, _, e⟩
        rw [hn] at hA
        subst hA
        clear hn hne hc
        by_cases hx : x < 256
        · by_cases hnl : n < 8192
          · have hnl' : (n : Int) < 8192 := by omega
            have ex : wrap64 (x + 1) = x + 1 := wrapId _ (by omega) (by omega)
            have exs : wrap64 (x + s) = x + s := wrapId _ (by omega) (by omega)
            obtain ⟨i0, hi, hz0, hz1, hz2⟩ := info_parts infoRun
            rw [HN.out] at hown
            have hown4 := hown.alloc (.cells #[.int .i64 (k : Int), .int .i64 x, .int .i64 (x + 1)] 72)
            have hBq : B + 1 + 1 ≤ (wr.alloc (.cells #[.int .i64 (k : Int), .int .i64 x, .int .i64 (x + 1)] 72)).heap.size := by simp; omega
            go_wp2_with (at_builtin; refine wpList_append_lies _ rfl _ _ _ rfl (B + 1 + 1) 72 i0 _ 3 24 Try.underlying22 hi hz0 hz1 hz2 rfl (by omega) _ n (flatE encR l) rfl hown4 ⟨wr.heap.size, 0, none⟩ 1 1 [.int .i64 (k : Int), .int .i64 x, .int .i64 (x + 1)] rfl rfl (newsLit (cs := #[.int .i64 (k : Int), .int .i64 x, .int .i64 (x + 1)]) (by simp)) (by simp [Value.oneCell']) (by omega) (by unfold maxLen; omega) (by omega) hBq (wr.heap.size + 1) (by simp) ?_; intro gg cap5 w5 hown5 hgrow hat hlt5)
            have hob : ∀ g, (Value.slice A n cp).ownBlock = some g → B + 1 + 1 ≤ g ∧ g < wr.heap.size := fun g hg => ownBlock_lt hown hg
            have hb5 : Below B w w5 := (hb.alloc (by omega) _).grown hgrow (by simp; omega) (fun q hq => by have := (hob _ hq).1; omega)
            have hne5 : some B ≠ (Value.slice A n cp).ownBlock := fun e => by have := (hob _ e.symm).1; omega
            have hne6 : some (B + 1) ≠ (Value.slice A n cp).ownBlock := fun e => by have := (hob _ e.symm).1; omega
            have d0 := (hgrow.cell_far ⟨B, 0, none⟩ (by simp; omega) hne5).trans ((World.cell?_alloc_lt wr _ ⟨B, 0, none⟩ (by show B < wr.heap.size; omega)).trans d0)
            have d1 := (hgrow.cell_far ⟨B, 1, none⟩ (by simp; omega) hne5).trans ((World.cell?_alloc_lt wr _ ⟨B, 1, none⟩ (by show B < wr.heap.size; omega)).trans d1)
            have d2 := (hgrow.cell_far ⟨B + 1, 1, none⟩ (by simp; omega) hne6).trans ((World.cell?_alloc_lt wr _ ⟨B + 1, 1, none⟩ (by show B + 1 < wr.heap.size; omega)).trans d2)
            have hz5 : B + 1 + 1 ≤ w5.heap.size := by have := hgrow.size; simp at this; omega
            have hown5 : w5.ownsRow (B + 1 + 1) 72 3 (.slice (some ⟨gg, 0, none⟩) (n + 1) cap5) (l ++ [((k : Int), x, x + 1)]).length (flatE encR (l ++ [((k : Int), x, x + 1)])) := by rw [flatE_append, List.length_append, HN.out]; exact hown5
            go_roundw
            case rel => exact ⟨x + s, by go_num, by omega, by omega, ⟨_, HC.out.add (by omega) (by omega) (by rw [HN.out]; exact hnl) (by omega), fun _ => by simp, hown5⟩, d0, d1, d2, hb5, hz5⟩
            case measure => simp [intOf]; omega
          · have hnl' : ¬ (n : Int) < 8192 := by omega
            go_wp2_with fail
            go_roundw
            case rel => exact ⟨k + 1, by omega, by go_num, ⟨l, by push_cast; exact HC.out.row 0, fun _ => by rw [HN.out]; omega, by rw [HN.out] at hown ⊢; exact hown⟩, d0, d1, d2, hb, hz⟩
            case measure => simp [intOf]; omega
        · go_wp2_with fail
          go_roundw
          case rel => exact ⟨k + 1, by omega, by go_num, ⟨l, by push_cast; exact HC.out.row 0, fun _ => HNE.out (by have := HX.out; omega), by rw [HN.out] at hown ⊢; exact hown⟩, d0, d1, d2, hb, hz⟩
          case measure => simp [intOf]; omega
    · have hke : (k : Int) = H := by omega
      have hfin := Lst_of_own encR_len hown rfl
      have HF := Lib.hid hfin
      have HC := Lib.hid hc
      have HL := Lib.hid (hne (by omega))
      clear hown hfin hc hne
      go_wp2_with fail
      go_ret
      exact ⟨⟨_, rfl, l, HF.out, HC.out.1, HL.out, HC.out.2.2⟩, by first | exact hb | (rw [hB]; exact hb)⟩
#print axioms comb_gr
end Go.Proofs.Ytnbdnnbeiohmgaa
/- cressetlaw03.alive. -/
namespace Go.Proofs.Ytnbdnnbeiohmgaa
open Go.RowKit Go.Shelf Go.Lib

end Go.Proofs.Ytnbdnnbeiohmgaa
/- grid.Half: is a cell to the left of a line? -/
namespace Go.Proofs.Ytnbdnnbeiohmgaa
open Go.RowKit Go.Shelf Go.Lib

end Go.Proofs.Ytnbdnnbeiohmgaa
/- grid.Half: the cells of a row from the first to the last that is to the left. -/
namespace Go.Proofs.Ytnbdnnbeiohmgaa
open Go.RowKit Go.Shelf Go.Lib

end Go.Proofs.Ytnbdnnbeiohmgaa
/- grid.Half. -/
namespace Go.Proofs.Ytnbdnnbeiohmgaa
open Go.RowKit Go.Shelf Go.Lib

end Go.Proofs.Ytnbdnnbeiohmgaa
/- cressetref03.Great. -/
namespace Go.Proofs.Ytnbdnnbeiohmgaa
open Go.RowKit Go.Shelf Go.Lib

end Go.Proofs.Ytnbdnnbeiohmgaa
/- GridReaches: the plain law. -/
namespace Go.Proofs.Ytnbdnnbeiohmgaa
open Go.RowKit

/-- which cells the merged rows have -/
theorem MergeOf.has {l m : List S2} (h : MergeOf l m) (hl : ∀ s, s ∈ l → s.1 < s.2) (x : Int) : inS x m ↔ inS x l := by
  obtain ⟨l', hp, hs, rfl⟩ := h
  have h1 := (mergeL_spec hs (fun s hm => hl s (hp.mem_iff.1 hm))).2.1 x
  rw [h1]
  constructor
  · rintro ⟨s, hm, r⟩; exact ⟨s, hp.mem_iff.1 hm, r⟩
  · rintro ⟨s, hm, r⟩; exact ⟨s, hp.mem_iff.2 hm, r⟩
end Go.Proofs.Ytnbdnnbeiohmgaa
