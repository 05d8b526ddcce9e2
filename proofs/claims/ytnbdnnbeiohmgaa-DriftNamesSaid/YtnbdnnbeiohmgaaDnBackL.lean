/- drift: laws of before's loop. -/
import Derived.Test.YtnbdnnbeiohmgaaDnStep
import Derived.Test.YtnbdnnbeiohmgaaDnBackB
namespace Go.Proofs.Ytnbdnnbeiohmgaa
open Go.RowKit Go.Shelf Go.Lib Go.Maps

/-! ### what the cells of the bay grow to -/
def growR (x y a b c d : Int) : List R3 := rowsR (growF 5 5 (leadOf 100 a b c d) [(y, x, x + 1)]) 256
def grB (x y a b c d : Int) : Bool := checkRs 5 5 100 landB [[(y, x, x + 1)]] && pushB a b c d && decide ((growR x y a b c d).length ≤ 8192) && checkRs 5 5 100 landB [growR x y a b c d] && inBay (cellsL (growR x y a b c d))
theorem grown_of {x y a b c d : Int} (h : grB x y a b c d = true) : Grown (y, x, x + 1) a b c d (growR x y a b c d) (offL 5 5 (leadOf 100 a b c d) [(y, x, x + 1)]) := by
  unfold grB at h
  simp only [Bool.and_eq_true, decide_eq_true_eq] at h
  obtain ⟨⟨⟨⟨h1, h2⟩, h3⟩, h4⟩, h5⟩ := h
  exact ⟨h1, h2, rfl, rfl, h3, h4, h5⟩
def goodC (z : Int × Int) : Bool := decide (z = (1, 1)) || decide (z = (1, 2))
def Set0 : Int → Int → Bool := Plus (fun _ _ => false) (cellsL [(2, 2, 3)])
def SetNo : Int → Int → Bool := Plus (fun _ _ => false) (cellsL [])
theorem any_setNo (l : List (Int × Int)) : (l.any fun z => SetNo z.1 z.2) = false := by
  have : (fun z : Int × Int => SetNo z.1 z.2) = fun _ => false := by
    funext z
    simp [SetNo, Plus, cells_nil]
  rw [this]
  simp
def watB (z : Int × Int) : Bool := decide (0 ≤ z.1) && decide (z.1 < 5) && decide (0 ≤ z.2) && decide (z.2 < 5) && hasL allB z.1 z.2 && grB z.1 z.2 100 50 100 100 && grB z.1 z.2 100 (-100) 100 (-50) && grB z.1 z.2 0 0 100 100 && grB z.1 z.2 0 (-100) 100 0 && (((cellsL (growR z.1 z.2 100 50 100 100)).any fun q => Set0 q.1 q.2) == goodC z)
set_option maxRecDepth 100000 in
theorem wat_all : (wat 5 0).all watB = true := by decide +kernel
theorem wat_n : (wat 5 0).length = 20 := by decide +kernel
theorem wat_good : (wat 5 0).filter goodC = [(1, 1), (1, 2)] := by decide +kernel
/-- a cell of the bay's water -/
structure WatC (x y : Int) : Prop where
  bx : 0 ≤ x ∧ x < 5
  hy : 0 ≤ y ∧ y < 5
  ain : hasL allB x y = true
  p0 : grB x y 100 50 100 100 = true
  p1 : grB x y 100 (-100) 100 (-50) = true
  s0 : grB x y 0 0 100 100 = true
  s1 : grB x y 0 (-100) 100 0 = true
  g : ((cellsL (growR x y 100 50 100 100)).any fun q => Set0 q.1 q.2) = goodC (x, y)
theorem watC {x y : Int} (h : (x, y) ∈ wat 5 0) : WatC x y := by
  have h := List.all_eq_true.1 wat_all _ h
  unfold watB at h
  simp only [Bool.and_eq_true, decide_eq_true_eq, beq_iff_eq] at h
  obtain ⟨⟨⟨⟨⟨⟨⟨⟨⟨h1, h2⟩, h3⟩, h4⟩, h5⟩, h6⟩, h7⟩, h8⟩, h9⟩, h10⟩ := h
  exact ⟨⟨h1, h2⟩, ⟨h3, h4⟩, h5, h6, h7, h8, h9, h10⟩
/-- the cells that a loop over the water has gathered -/
def gath (k : Nat) : List (Int × Int) := ((wat 5 0).take k).filter goodC
theorem gath_zero : gath 0 = [] := rfl
theorem gath_all : gath 20 = [(1, 1), (1, 2)] := by
  unfold gath
  rw [List.take_of_length_le (by rw [wat_n]; omega)]
  exact wat_good
theorem gath_add {k : Nat} {z : Int × Int} (h : (wat 5 0)[k]? = some z) : gath (k + 1) = if goodC z = true then gath k ++ [z] else gath k := by
  unfold gath
  rw [List.take_add_one, h, List.filter_append]
  by_cases e : goodC z = true
  · rw [if_pos e]
    simp [e]
  · rw [if_neg e]
    simp [e]
theorem gath_len (k : Nat) : (gath k).length ≤ 20 := by
  unfold gath
  have h1 := List.length_filter_le goodC ((wat 5 0).take k)
  have h2 := List.length_take_le' k (wat 5 0)
  rw [wat_n] at h2
  omega
/-- sea.meets at the bay: the left, in the place asked for -/
theorem meets_a {x y : Int} (hc : WatC x y) (L : Option Addr) (lc b1 b2 M N : Nat) (w : World) (hL : Runs w (.slice L 5 lc) landB) (hM : BaySet w M N Set0) :
    Calls Try.prog 148 #[.agg #[.int .i64 5, .int .i64 5, .int .i64 100, .slice L 5 lc, .slice (some ⟨b1, 0, none⟩) 1 1, .slice (some ⟨b2, 0, none⟩) 1 1, .int .i64 20, .int .i64 20, .int .i64 10, .int .i64 20, .bool false], .agg #[.int .i64 x, .int .i64 y], .agg #[.int .i64 100, .int .i64 50, .int .i64 100, .int .i64 100], .map (some M)] w fun e w' => e = .returned (.bool (goodC (x, y))) ∧ Below w.heap.size w w' := by
  rw [← hc.g]
  exact meets_dn L lc b1 b2 M N Set0 x y 100 50 100 100 _ _ w hL hM (grown_of hc.p0) hc.bx
/-- sea.meets with a set of nothing -/
theorem meets_n {x y a b c d : Int} (hx : 0 ≤ x ∧ x < 5) (hg : grB x y a b c d = true) (L : Option Addr) (lc b1 b2 M N : Nat) (w : World) (hL : Runs w (.slice L 5 lc) landB) (hM : BaySet w M N SetNo) :
    Calls Try.prog 148 #[.agg #[.int .i64 5, .int .i64 5, .int .i64 100, .slice L 5 lc, .slice (some ⟨b1, 0, none⟩) 1 1, .slice (some ⟨b2, 0, none⟩) 1 1, .int .i64 20, .int .i64 20, .int .i64 10, .int .i64 20, .bool false], .agg #[.int .i64 x, .int .i64 y], .agg #[.int .i64 a, .int .i64 b, .int .i64 c, .int .i64 d], .map (some M)] w fun e w' => e = .returned (.bool false) ∧ Below w.heap.size w w' := by
  have h := meets_dn L lc b1 b2 M N SetNo x y a b c d _ _ w hL hM (grown_of hg) hx
  rw [any_setNo] at h
  exact h

/-! ### the list that before's loop gathers -/
/-- the water lies at a place -/
def WatAt (w : World) (b off : Nat) : Prop := b < w.heap.size ∧ ∀ k x y, (wat 5 0)[k]? = some (x, y) → w.cell? ⟨b, off + k * 2, none⟩ = some (.int .i64 x) ∧ w.cell? ⟨b, off + k * 2 + 1, none⟩ = some (.int .i64 y)
theorem WatAt.below {w w' : World} {b off : Nat} (h : WatAt w b off) (hb : Below w.heap.size w w') : WatAt w' b off :=
  ⟨Nat.lt_of_lt_of_le h.1 hb.size, fun k x y hz => ⟨(hb.cell h.1).trans (h.2 k x y hz).1, (hb.cell h.1).trans (h.2 k x y hz).2⟩⟩
theorem WatAt.xm {w w' : World} {b off M : Nat} (h : WatAt w b off) (hx : Xm M w w') (hne : b ≠ M) : WatAt w' b off :=
  ⟨Nat.lt_of_lt_of_le h.1 hx.size, fun k x y hz => ⟨hx.cell h.1 hne (h.2 k x y hz).1, hx.cell h.1 hne (h.2 k x y hz).2⟩⟩
theorem watAt {w : World} {A : Option Addr} {c : Nat} (h : Lst 2 encC w (.slice A 20 c) (wat 5 0)) : ∃ b off, A = some ⟨b, off, none⟩ ∧ WatAt w b off := by
  obtain ⟨A', c', e, -, -, h3⟩ := h
  obtain ⟨b, off, h4, hb, hc⟩ := h3 (by rw [wat_n]; omega)
  obtain ⟨rfl, -, -⟩ := Value.slice.inj e
  subst h4
  exact ⟨b, off, rfl, hb, fun k x y hz => ⟨hc k 0 _ _ hz rfl, hc k 1 _ _ hz rfl⟩⟩
theorem WatAt.ne {w : World} {b off F : Nat} {A1 A2 : Option Addr} {n1 n2 c1 c2 : Nat} {t : TypeId} {f : Nat × Nat} (h : WatAt w b off) (hF : HasO w F (.cells #[.slice A1 n1 c1, .slice A2 n2 c2] t f)) : b ≠ F := fun e => by
  subst e
  have k := (h.2 0 0 0 (by decide +kernel)).1
  have hF' : w.heap[b]? = some _ := hF
  simp only [World.cell?, hF'] at k
  match off, k with
  | 0, k => simp at k
  | 1, k => simp at k
  | n + 2, k => simp at k
/-- the box of the lists, ahead of a cell -/
structure FromB (w0 : World) (F : Nat) (l : List (Int × Int)) (w : World) : Prop where
  xm : Xm F w0 w
  row : ∃ v, HasO w F (.cells #[v, .slice none 0 0] 227 (0, 0)) ∧ w.ownsRow w0.heap.size 39 2 v l.length (flatE encC l)
/-- the same, with the cell's box -/
structure InB (w0 : World) (F K : Nat) (x y : Int) (l : List (Int × Int)) (w : World) : Prop where
  xm : Xm F w0 w
  cb : HasO w K (.cells #[.int .i64 x, .int .i64 y] 39 (0, 0))
  row : ∃ v, HasO w F (.cells #[v, .slice none 0 0] 227 (0, 0)) ∧ w.ownsRow w0.heap.size 39 2 v l.length (flatE encC l) ∧ v.ownBlock ≠ some K
theorem ownsRow_below {w w' : World} {base : Nat} {e : TypeId} {size n : Nat} {v : Value} {xs : List Value} (h : w.ownsRow base e size v n xs) (hb : Below w.heap.size w w') : w'.ownsRow base e size v n xs := by
  have hg : w.grownBy w' (some w.heap.size) := ⟨hb.os, hb.tape, hb.output, hb.size, fun k hk _ => hb.block k hk⟩
  refine h.kept hg ?_
  by_cases hn : v.ownBlock = none
  · exact .inl hn
  · obtain ⟨g, hg⟩ := Option.ne_none_iff_exists'.1 hn
    exact .inr (fun e => by have := (ownBlock_lt h hg).2; rw [hg] at e; cases e; omega)
theorem InB.below {w0 w w' : World} {F K : Nat} {x y : Int} {l : List (Int × Int)} (h : InB w0 F K x y l w) (hb : Below w.heap.size w w') : InB w0 F K x y l w' := by
  obtain ⟨h1, h2, v, h3, h4, h5⟩ := h
  exact ⟨h1.trans (Xm.of hb), h2.below hb, v, h3.below hb, ownsRow_below h4 hb, h5⟩
theorem InB.start {w0 w w' : World} {F : Nat} {x y : Int} {l : List (Int × Int)} (h : FromB w0 F l w) (e : w.alloc (.cells #[.int .i64 x, .int .i64 y] 39) = w') : InB w0 F w.heap.size x y l w' := by
  obtain ⟨h1, v, h3, h4⟩ := h
  have hb : Below w.heap.size w w' := by rw [← e]; exact (Below.refl _ _).alloc (Nat.le_refl _) _
  refine ⟨h1.trans (Xm.of hb), HasO.new e, v, h3.below hb, ownsRow_below h4 hb, fun hk => ?_⟩
  have := (ownBlock_lt h4 hk).2
  omega
theorem InB.fin {w0 w : World} {F K : Nat} {x y : Int} {l : List (Int × Int)} (h : InB w0 F K x y l w) : FromB w0 F l w := by
  obtain ⟨h1, h2, v, h3, h4, h5⟩ := h
  exact ⟨h1, v, h3, h4⟩
/-- the cell is put to the list -/
theorem InB.put {w0 w w' : World} {F K : Nat} {x y : Int} {l : List (Int × Int)} {v v' : Value} {o : Obj} (hx : Xm F w0 w) (hcb : HasO w K (.cells #[.int .i64 x, .int .i64 y] 39 (0, 0))) (hF : HasO w F (.cells #[v, .slice none 0 0] 227 (0, 0)))
    (hown : w.ownsRow w0.heap.size 39 2 v l.length (flatE encC l)) (hne : v.ownBlock ≠ some K) (hF0 : F < w0.heap.size)
    (hown' : w'.ownsRow w0.heap.size 39 2 v' (l.length + 1) (flatE encC l ++ [.int .i64 x, .int .i64 y])) (hg : (w.alloc o).grownBy w' v.ownBlock) (hat : v'.ownBlock = v.ownBlock ∨ v'.ownBlock = some (w.heap.size + 1)) :
    InB w0 F K x y (l ++ [(x, y)]) (w'.setCell ⟨F, 0, none⟩ v') := by
  have hFw := hF.lt
  have hKw := hcb.lt
  have hz := hx.size
  have xa : Xm F w0 (w.alloc o) := hx.trans (Xm.of ((Below.refl _ _).alloc (Nat.le_refl _) _))
  have xb : Xm F w0 w' := xa.grownX hg fun r hr => (ownBlock_lt hown hr).1
  have hFb : HasO w' F (.cells #[v, .slice none 0 0] 227 (0, 0)) := (hg.block F (by simp; omega) (fun e => by have := (ownBlock_lt hown e.symm).1; omega)).trans (hF.alloc o)
  have hKb : HasO w' K (.cells #[.int .i64 x, .int .i64 y] 39 (0, 0)) := (hg.block K (by simp; omega) (fun e => hne e.symm)).trans (hcb.alloc o)
  have hKF : K ≠ F := fun e => by
    subst e
    have h1 : w.heap[K]? = some _ := hF
    have h2 : w.heap[K]? = some _ := hcb
    rw [h1] at h2
    cases h2
  have xs := Xm.set (M := F) (i := 0) w' v'
  refine ⟨xb.trans xs, hKb.xm xs hKF, v', HasO.set hFb, ?_, fun e => ?_⟩
  · have e1 : (l ++ [(x, y)]).length = l.length + 1 := by simp
    rw [e1, flatE_append]
    have hgx : w'.grownBy (w'.setCell ⟨F, 0, none⟩ v') (some F) := ⟨xs.os, xs.tape, xs.output, xs.size, fun k hk hn => xs.block k hk (fun e => hn (by rw [e]))⟩
    refine hown'.kept hgx ?_
    by_cases hn : v'.ownBlock = none
    · exact .inl hn
    · obtain ⟨g, hg'⟩ := Option.ne_none_iff_exists'.1 hn
      exact .inr (fun e => by have := (ownBlock_lt hown' hg').1; rw [hg'] at e; cases e; omega)
  · rcases hat with h | h
    · exact hne (h.symm.trans e)
    · rw [h] at e
      cases e
      omega
end Go.Proofs.Ytnbdnnbeiohmgaa
