/- grid.Shore. -/
import Derived.Test.YtnbdnnbeiohmgaaPtParts
namespace Go.Proofs.Ytnbdnnbeiohmgaa
open Go.RowKit Go.Maps Go.Shelf Go.Lib
attribute [local go_sem] Oper.semAt_some

/-- is a cell in the grid? -/
def inG (W H : Int) (c : Int × Int) : Bool := decide ((0 ≤ c.1 ∧ c.1 < W) ∧ 0 ≤ c.2 ∧ c.2 < H)
theorem addF_off {W H : Int} {c : Int × Int} (hW : 1 ≤ W) (f : Nat → List S2) (h : inG W H c = false) : addF W H c.2 c.1 (c.1 + 1) f = f := by
  refine addF_no ?_
  unfold inG at h
  rw [decide_eq_false_iff_not] at h
  unfold addOK inB
  rw [Bool.and_eq_false_iff]
  by_cases h2 : 0 ≤ c.2 ∧ c.2 < H
  · right
    rw [decide_eq_false_iff_not]
    intro h3
    exact h ⟨by omega, h2⟩
  · left
    rw [Bool.and_eq_false_iff]
    by_cases h3 : 0 ≤ c.2
    · right; rw [decide_eq_false_iff_not]; omega
    · left; rw [decide_eq_false_iff_not]; omega
theorem cellF_filter {W H : Int} (hW : 1 ≤ W) (l : List (Int × Int)) : cellF W H l = cellF W H (l.filter (inG W H)) := by
  have key : ∀ (l : List (Int × Int)) (f : Nat → List S2), l.foldl (fun f c => addF W H c.2 c.1 (c.1 + 1) f) f = (l.filter (inG W H)).foldl (fun f c => addF W H c.2 c.1 (c.1 + 1) f) f := by
    intro l
    induction l with
    | nil => intro f; rfl
    | cons c l ih =>
      intro f
      cases hc : inG W H c with
      | false =>
        rw [List.foldl_cons, List.filter_cons_of_neg (by rw [hc]; simp), addF_off hW f hc]
        exact ih f
      | true =>
        rw [List.foldl_cons, List.filter_cons_of_pos hc, List.foldl_cons]
        exact ih _
  exact key l _
theorem refR_congr2 {P Q : Int → Int → Bool} {W H : Nat} (h : ∀ x y : Int, 0 ≤ x → x < W → 0 ≤ y → y < H → P x y = Q x y) : refR P W H = refR Q W H := by
  unfold refR
  refine rowsR_congr fun y hy => ?_
  have key : ∀ n, n ≤ W → runRow (fun x => P x y) n = runRow (fun x => Q x y) n := by
    intro n
    induction n with
    | zero => intro _; rfl
    | succ n ih =>
      intro hn
      have e := h n y (by omega) (by omega) (by omega) (by omega)
      cases hq : Q n y with
      | true => simp [runRow, e.trans hq, hq, ih (by omega)]
      | false => simp [runRow, e.trans hq, hq, ih (by omega)]
  exact key W (Nat.le_refl _)
theorem cells_eq2 {W H : Int} {l : List (Int × Int)} {R : List R3} {P : Int → Int → Bool} (hW : 1 ≤ W ∧ W ≤ 256) (hH : 1 ≤ H ∧ H ≤ 256) (hP : ∀ x y, (x, y) ∈ l ↔ P x y = true) (h : RegOf (cellF W H l) R) : R = refR P W.toNat H.toNat := by
  rw [cellF_filter hW.1] at h
  rw [cells_eq hW hH (fun c hc => by
    have := (List.mem_filter.1 hc).2
    unfold inG at this
    simpa using this) h]
  refine refR_congr2 fun x y h1 h2 h3 h4 => ?_
  rw [Bool.eq_iff_iff, decide_eq_true_eq, List.mem_filter, hP]
  unfold inG
  rw [decide_eq_true_eq]
  constructor
  · exact fun h => h.1
  · exact fun h => ⟨h, by omega⟩

/-- the state of the range over the land -/
structure ShI (w wr : World) (B M T Rr D N : Nat) (W H S : Int) (vL : Value) (Dm : DataW Unit) (left : Lit → Bool) (cnt : Nat) (vs : Nat → Value) (l : List (Int × Int)) : Prop where
  rg : wr.ranges Try.prog 39 (plainElem Try.prog 4) M Rr N Dm left cnt
  tab : Tab wr T vs (cellF W H l)
  nob : ∀ i, i < 256 → (vs i).ownBlock ≠ some Rr
  grid : wr.heap[B]? = some (.cells #[.int .i64 W, .int .i64 H, .int .i64 S, vL] 24 (0, 0))
  box : Boxed wr (M + 1) 129 (.map (some M))
  df : wr.heap[D]? = some (.deferred (some []))
  bw : Below B w wr
  ord : B < M ∧ M + 1 < T ∧ D < T ∧ T < Rr
section
variable {w wr w' : World} {B M T Rr D N cnt : Nat} {W H S : Int} {vL : Value} {Dm : DataW Unit} {left : Lit → Bool} {vs vs' : Nat → Value} {l l' : List (Int × Int)}
theorem rangesOf (h : wr.ranges Try.prog 39 (plainElem Try.prog 4) M Rr N Dm left cnt) (h1 : w'.heap[M]? = wr.heap[M]?) (h2 : w'.heap[Rr]? = wr.heap[Rr]?) : w'.ranges Try.prog 39 (plainElem Try.prog 4) M Rr N Dm left cnt := by
  obtain ⟨es, clock, since, seen, c0, hb, F, hs, hD, hr, rest⟩ := h
  exact ⟨es, clock, since, seen, c0, h1.trans hb, F, hs, hD, h2.trans hr, rest⟩
theorem ShI.below (h : ShI w wr B M T Rr D N W H S vL Dm left cnt vs l) (hb : Below wr.heap.size wr w') : ShI w w' B M T Rr D N W H S vL Dm left cnt vs l := by
  have hT := h.tab.lt
  have ho := h.ord
  exact ⟨rangesOf h.rg (hb.block M (by omega)) (hb.block Rr h.rg.lt), h.tab.below hb, h.nob, (hb.block B (by omega)).trans h.grid, (hb.block (M + 1) (by omega)).trans h.box, (hb.block D (by omega)).trans h.df, h.bw.trans (hb.mono (by have := h.bw.size; omega)), h.ord⟩
theorem ShI.add (h : ShI w wr B M T Rr D N W H S vL Dm left cnt vs l) (ht : Tab w' T vs' (cellF W H l')) (hu : Untouched wr w' T vs vs') (hb : Below T wr w') : ShI w w' B M T Rr D N W H S vL Dm left cnt vs' l' := by
  have hT := h.tab.lt
  have ho := h.ord
  have hr := hu Rr h.rg.lt (by omega) h.nob
  exact ⟨rangesOf h.rg (hb.block M (by omega)) hr.1, ht, hr.2, (hb.block B (by omega)).trans h.grid, (hb.block (M + 1) (by omega)).trans h.box, (hb.block D (by omega)).trans h.df, h.bw.trans (hb.mono (by omega)), h.ord⟩
theorem ShI.step {left' : Lit → Bool} {cnt' : Nat} (h : ShI w wr B M T Rr D N W H S vL Dm left cnt vs l) (hg : wr.grownBy w' (some Rr)) (hr : w'.ranges Try.prog 39 (plainElem Try.prog 4) M Rr N Dm left' cnt') : ShI w w' B M T Rr D N W H S vL Dm left' cnt' vs l := by
  have hT := h.tab.lt
  have ho := h.ord
  have hk : ∀ j, j < wr.heap.size → j ≠ Rr → w'.heap[j]? = wr.heap[j]? := fun j hj hne => hg.block j hj (fun e => hne (Option.some.inj e))
  refine ⟨hr, ⟨Nat.lt_of_lt_of_le h.tab.lt hg.size, fun i hi => ?_, fun i hi => ?_, fun i hi => ?_, h.tab.apart⟩, h.nob, (hk B (by omega) (by omega)).trans h.grid, (hk (M + 1) (by omega) (by omega)).trans h.box, (hk D (by omega) (by omega)).trans h.df, h.bw.grown hg (by omega) (fun r e => by cases e; omega), h.ord⟩
  · exact (World.cell?_of_block (a := ⟨T, i, none⟩) (hk T hT (by omega))).trans (h.tab.cell i hi)
  · exact (World.frozen?_of_block (a := ⟨T, i, none⟩) (hk T hT (by omega))).trans (h.tab.fz i hi)
  · refine (h.tab.own i hi).kept hg ?_
    cases hv : (vs i).ownBlock with
    | none => exact .inl rfl
    | some g => exact .inr (fun e => h.nob i hi (by rw [hv]; exact e))
theorem ShI.cells (h : ShI w wr B M T Rr D N W H S vL Dm left cnt vs l) : wr.cell? ⟨B, 0, none⟩ = some (.int .i64 W) ∧ wr.cell? ⟨B, 1, none⟩ = some (.int .i64 H) ∧ wr.cell? ⟨B, 2, none⟩ = some (.int .i64 S) ∧ wr.cell? ⟨B, 3, none⟩ = some vL ∧ wr.cell? ⟨M + 1, 0, none⟩ = some (.map (some M)) := by
  have hg := h.grid
  exact ⟨by simp [World.cell?, hg], by simp [World.cell?, hg], by simp [World.cell?, hg], by simp [World.cell?, hg], h.box.cell⟩
end

end Go.Proofs.Ytnbdnnbeiohmgaa
