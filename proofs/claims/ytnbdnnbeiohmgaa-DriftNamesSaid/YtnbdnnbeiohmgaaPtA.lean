/- grid.Parts: the inner function fill: all that hangs together with a cell. -/
import Derived.Deep.Cut
import Derived.RangeFuncNested
import Derived.RangeFuncBound
import Derived.RangeFuncCalls
import Derived.RangeFuncLeaves
import Derived.Shelf.Abstract
import Derived.Shelf.RegionOpen
import Derived.WalkKit
import Derived.OwnWalkIn
import Derived.TacticsInMore
import Derived.LoopNIn
import Derived.LoopIn
import Derived.Maps.AppendAt
import Derived.Below
import Derived.Lib.Hide
import Derived.ProofKit
import Derived.Test.YtnbdnnbeiohmgaaGrB
import Derived.Test.YtnbdnnbeiohmgaaMapA
import Derived.Test.YtnbdnnbeiohmgaaGrCells
import Derived.Test.YtnbdnnbeiohmgaaTrRegion
namespace Go.Proofs.Ytnbdnnbeiohmgaa
open Go.RowKit Go.Maps

/-! ### a set that loses cells -/
def SetN (w : World) (b N n : Nat) (S : Int → Int → Bool) : Prop := ∃ D : DataW Unit, w.ownsMap Try.prog 39 (plainElem Try.prog 4) b N D ∧ SetD D S ∧ Maps.size D ≤ n
theorem SetN.setC {w : World} {b N n : Nat} {S : Int → Int → Bool} (h : SetN w b N n S) : SetC w b N S := by
  obtain ⟨D, h1, h2, -⟩ := h
  exact ⟨D, h1, fun x y hx hy => (h2 x y hx hy).1⟩
theorem SetN.of_block {w w' : World} {b N n : Nat} {S : Int → Int → Bool} (h : SetN w b N n S) (hb : w'.heap[b]? = w.heap[b]?) : SetN w' b N n S := by
  obtain ⟨D, ⟨es, clock, hh, F, hs, hD⟩, h2⟩ := h
  exact ⟨D, ⟨es, clock, hb.trans hh, F, hs, hD⟩, h2⟩
theorem SetN.lt {w : World} {b N n : Nat} {S : Int → Int → Bool} (h : SetN w b N n S) : b < w.heap.size := h.setC.lt
theorem SetN.more {w : World} {b N n n' : Nat} {S : Int → Int → Bool} (h : SetN w b N n S) (hn : n ≤ n') : SetN w b N n' S := by
  obtain ⟨D, h1, h2, h3⟩ := h
  exact ⟨D, h1, h2, Nat.le_trans h3 hn⟩
theorem SetN.pos {w : World} {b N n : Nat} {S : Int → Int → Bool} (h : SetN w b N n S) {x y : Int} (hx : isI64 x) (hy : isI64 y) (hs : S x y = true) : 0 < n := by
  obtain ⟨D, h1, h2, h3⟩ := h
  have h4 := (h2 x y hx hy).2
  rw [hs] at h4
  have h5 := size_del (k := cellK x y) (h1.tidy lawC)
  rw [if_pos h4] at h5
  omega
def remS (S : Int → Int → Bool) (x y : Int) : Int → Int → Bool := fun p q => if p = x ∧ q = y then false else S p q
/-! ### what a table and a set may turn -/
structure Tl (M T : Nat) (w : World) (vs : Nat → Value) (w' : World) (vs' : Nat → Value) : Prop where
  os : w'.os = w.os
  tape : w'.tape = w.tape
  output : w'.output = w.output
  size : w.heap.size ≤ w'.heap.size
  un : ∀ j, j < w.heap.size → j ≠ T → j ≠ M → (∀ i, i < 256 → (vs i).ownBlock ≠ some j) → w'.heap[j]? = w.heap[j]? ∧ ∀ i, i < 256 → (vs' i).ownBlock ≠ some j
theorem Tl.refl (M T : Nat) (w : World) (vs : Nat → Value) : Tl M T w vs w vs := ⟨rfl, rfl, rfl, Nat.le_refl _, fun _ _ _ _ h => ⟨rfl, h⟩⟩
theorem Tl.trans {M T : Nat} {a b c : World} {u v x : Nat → Value} (h : Tl M T a u b v) (k : Tl M T b v c x) : Tl M T a u c x :=
  ⟨k.os.trans h.os, k.tape.trans h.tape, k.output.trans h.output, Nat.le_trans h.size k.size, fun j hj h1 h2 h3 => by
    obtain ⟨e1, e2⟩ := h.un j hj h1 h2 h3
    obtain ⟨e3, e4⟩ := k.un j (Nat.lt_of_lt_of_le hj h.size) h1 h2 e2
    exact ⟨e3.trans e1, e4⟩⟩
theorem Tl.of_below {M T : Nat} {a b : World} {u : Nat → Value} (h : Below a.heap.size a b) : Tl M T a u b u := ⟨h.os, h.tape, h.output, h.size, fun j hj _ _ h3 => ⟨h.block j hj, h3⟩⟩
theorem Tl.alloc {M T : Nat} {a b : World} {u v : Nat → Value} (h : Tl M T a u b v) (o : Obj) : Tl M T a u (b.alloc o) v := h.trans (Tl.of_below ((Below.refl _ _).alloc (Nat.le_refl _) _))
theorem Tl.cell {M T : Nat} {a b : World} {u v : Nat → Value} (h : Tl M T a u b v) {p : Addr} (hp : p.block < a.heap.size) (h1 : p.block ≠ T) (h2 : p.block ≠ M) (h3 : ∀ i, i < 256 → (u i).ownBlock ≠ some p.block) : b.cell? p = a.cell? p :=
  World.cell?_of_block (h.un _ hp h1 h2 h3).1
theorem Tl.set {M T N n : Nat} {a b : World} {u v : Nat → Value} {S : Int → Int → Bool} {f : Nat → List (Int × Int)} (_hT : Tab a T u f) (h : Below T a b) (_k : Untouched a b T u v) (hM : M < T) (hs : SetN a M N n S) : SetN b M N n S :=
  hs.of_block (h.block M hM)
/-- the table stays where blocks are laid, and where the set turns -/
theorem Tab.kept {w w' : World} {T M : Nat} {vs : Nat → Value} {f : Nat → List (Int × Int)} (h : Tab w T vs f) (hg : w.grownBy w' (some M)) (hM : M < T) : Tab w' T vs f := by
  have hk : ∀ j, j < w.heap.size → T ≤ j → w'.heap[j]? = w.heap[j]? := fun j hj hT => hg.block j hj (fun e => by cases e; omega)
  refine ⟨Nat.lt_of_lt_of_le h.lt hg.size, fun i hi => ?_, fun i hi => ?_, fun i hi => ?_, h.apart⟩
  · exact (World.cell?_of_block (a := ⟨T, i, none⟩) (hk T h.lt (Nat.le_refl _))).trans (h.cell i hi)
  · exact (World.frozen?_of_block (a := ⟨T, i, none⟩) (hk T h.lt (Nat.le_refl _))).trans (h.fz i hi)
  · refine (h.own i hi).kept hg ?_
    cases hv : (vs i).ownBlock with
    | none => exact .inl rfl
    | some g =>
      have := (ownBlock_lt (h.own i hi) hv).1
      exact .inr (fun e => by cases e; omega)

/-! ### the plain law -/
def sidesL (c : Int × Int) : List (Int × Int) := [(c.1 - 1, c.2), (c.1 + 1, c.2), (c.1, c.2 - 1), (c.1, c.2 + 1)]
end Go.Proofs.Ytnbdnnbeiohmgaa
/- grid.(*table).region: what comes lies in a row of the call's own. -/
namespace Go.Proofs.Ytnbdnnbeiohmgaa
open Go.RowKit Go.Shelf Go.Lib

end Go.Proofs.Ytnbdnnbeiohmgaa
/- grid.Parts: plain facts: the flood as a list of cells. -/
namespace Go.Proofs.Ytnbdnnbeiohmgaa
open Go.RowKit Go.Maps

/-- the flood from a cell: what is left, and what was met, in its order -/
def floodC : Nat → Int × Int → (Int → Int → Bool) × List (Int × Int) → (Int → Int → Bool) × List (Int × Int)
  | 0, _, st => st
  | k + 1, c, st => if st.1 c.1 c.2 = true then (sidesL c).foldl (fun s d => floodC k d s) (remS st.1 c.1 c.2, st.2 ++ [c]) else st
/-- the parts, one behind the other -/
def partS (k : Nat) (st : (Int → Int → Bool) × List (List (Int × Int))) (c : Int × Int) : (Int → Int → Bool) × List (List (Int × Int)) := if st.1 c.1 c.2 = true then ((floodC k c (st.1, [])).1, st.2 ++ [(floodC k c (st.1, [])).2]) else st
def partsC (k : Nat) (cs : List (Int × Int)) (S : Int → Int → Bool) : (Int → Int → Bool) × List (List (Int × Int)) := cs.foldl (partS k) (S, [])
theorem partsC_snoc (k : Nat) (cs : List (Int × Int)) (S : Int → Int → Bool) (c : Int × Int) : partsC k (cs ++ [c]) S = partS k (partsC k cs S) c := by simp [partsC]
/-- the set of a list of cells -/
def inC (l : List (Int × Int)) : Int → Int → Bool := fun p q => decide ((p, q) ∈ l)
end Go.Proofs.Ytnbdnnbeiohmgaa
/- the iterator over a region's cells, of cells of a kind. Printed by wip/mk_ptiter.py. -/
namespace Go.Proofs.Ytnbdnnbeiohmgaa
open Go.RowKit Go.Shelf Go.Lib
attribute [local go_sem] Oper.semAt_some

end Go.Proofs.Ytnbdnnbeiohmgaa
/- grid.Parts: what the second loop keeps. -/
namespace Go.Proofs.Ytnbdnnbeiohmgaa
open Go.RowKit Go.Maps Go.Shelf Go.Lib

/-- all but some blocks is as it was -/
structure Xt (F : Nat → Prop) (w w' : World) : Prop where
  os : w'.os = w.os
  tape : w'.tape = w.tape
  output : w'.output = w.output
  size : w.heap.size ≤ w'.heap.size
  block : ∀ k, k < w.heap.size → ¬ F k → w'.heap[k]? = w.heap[k]?
theorem Xt.refl (F : Nat → Prop) (w : World) : Xt F w w := ⟨rfl, rfl, rfl, Nat.le_refl _, fun _ _ _ => rfl⟩
theorem Xt.grown {F : Nat → Prop} {w w1 w2 : World} {row : Option Nat} (h : Xt F w w1) (hg : w1.grownBy w2 row) (hr : ∀ r, row = some r → F r ∨ w.heap.size ≤ r) : Xt F w w2 :=
  ⟨hg.os.trans h.os, hg.tape.trans h.tape, hg.output.trans h.output, Nat.le_trans h.size hg.size, fun k hk hf => (hg.block k (Nat.lt_of_lt_of_le hk h.size) (fun e => (hr k e.symm).elim hf (fun h => by omega))).trans (h.block k hk hf)⟩
theorem Xt.trans {F : Nat → Prop} {w w1 w2 : World} (h : Xt F w w1) (k : Xt F w1 w2) : Xt F w w2 :=
  ⟨k.os.trans h.os, k.tape.trans h.tape, k.output.trans h.output, Nat.le_trans h.size k.size, fun j hj hf => (k.block j (Nat.lt_of_lt_of_le hj h.size) hf).trans (h.block j hj hf)⟩
theorem Xt.transG {F G E : Nat → Prop} {w w1 w2 : World} (h : Xt F w w1) (k : Xt G w1 w2) (hF : ∀ b, F b → E b) (hG : ∀ b, b < w.heap.size → G b → E b) : Xt E w w2 :=
  ⟨k.os.trans h.os, k.tape.trans h.tape, k.output.trans h.output, Nat.le_trans h.size k.size, fun j hj hf => (k.block j (Nat.lt_of_lt_of_le hj h.size) (fun e => hf (hG j hj e))).trans (h.block j hj (fun e => hf (hF j e)))⟩
theorem Xt.below {F : Nat → Prop} {w W W' : World} {n : Nat} (hb : Below n w W) (h : Xt F W W') (hn : n ≤ W.heap.size) (hS : ∀ b, F b → n ≤ b) : Below n w W' :=
  ⟨h.os.trans hb.os, h.tape.trans hb.tape, h.output.trans hb.output, Nat.le_trans hb.size h.size, fun k hk => (h.block k (by omega) (fun e => by have := hS k e; omega)).trans (hb.block k hk)⟩
theorem Xt.cell {F : Nat → Prop} {W W' : World} (h : Xt F W W') {a : Addr} (ha : a.block < W.heap.size) (hS : ¬ F a.block) : W'.cell? a = W.cell? a := World.cell?_of_block (h.block _ ha hS)
theorem rowKeptC {W W' : World} {base : Nat} {e : TypeId} {z n : Nat} {v : Value} {xs : List Value} {row : Option Nat} (h : W.ownsRow base e z v n xs) (hg : W.grownBy W' row) (hr : ∀ r, row = some r → ∃ o : Obj, W.heap[r]? = some o ∧ o.isCells = false) : W'.ownsRow base e z v n xs := by
  refine h.kept hg ?_
  cases hv : v.ownBlock with
  | none => exact .inl rfl
  | some g =>
    refine .inr fun e => ?_
    obtain ⟨o, ho, hc⟩ := hr g e.symm
    rcases h.2 with ⟨rfl, -⟩ | ⟨g', cap, cur, rfl, -, hh, -⟩
    · simp [Value.ownBlock] at hv
    · simp [Value.ownBlock] at hv
      subst hv
      rw [hh] at ho
      cases ho
      cases hc
/-- the block of an own row -/
theorem rowBlock {W : World} {base : Nat} {e : TypeId} {z n : Nat} {v : Value} {xs : List Value} {g : Nat} (h : W.ownsRow base e z v n xs) (hg : v.ownBlock = some g) : base ≤ g ∧ ∃ cur, W.heap[g]? = some (.cells cur e (0, 0)) := by
  rcases h.2 with ⟨rfl, -⟩ | ⟨g', cap, cur, rfl, h1, h2, -⟩
  · simp [Value.ownBlock] at hg
  · simp [Value.ownBlock] at hg
    subst hg
    exact ⟨h1, cur, h2⟩
theorem rowOfBlock {W W' : World} {base : Nat} {e : TypeId} {z n : Nat} {v : Value} {xs : List Value} (h : W.ownsRow base e z v n xs) (hb : ∀ g, v.ownBlock = some g → W'.heap[g]? = W.heap[g]?) : W'.ownsRow base e z v n xs := by
  refine ⟨h.1, ?_⟩
  rcases h.2 with h | ⟨g, cap, cur, rfl, h1, h2, h3⟩
  · exact .inl h
  · exact .inr ⟨g, cap, cur, rfl, h1, (hb g rfl).trans h2, h3⟩
theorem SetN.made (w : World) : SetN (w.alloc (.map #[] 0)) w.heap.size 0 0 fun _ _ => false := ⟨.map [], World.ownsMap_made _ _ _ _, fun _ _ _ _ => ⟨rfl, rfl⟩, Nat.le_refl _⟩
theorem SetN.kept {w w' : World} {b N n : Nat} {S : Int → Int → Bool} {row : Option Nat} (h : SetN w b N n S) (hg : w.grownBy w' row) (hne : some b ≠ row) : SetN w' b N n S := h.of_block (hg.block b h.lt hne)
theorem SetN.ext {w : World} {b N n : Nat} {S S' : Int → Int → Bool} (h : SetN w b N n S) (e : ∀ p q, S p q = S' p q) : SetN w b N n S' := by
  obtain rfl : S = S' := funext fun p => funext fun q => e p q
  exact h
theorem SetN.notRun {w : World} {b N n : Nat} {S : Int → Int → Bool} (h : SetN w b N n S) {c : Array Value} {t : TypeId} {f : Nat × Nat} (e : w.heap[b]? = some (.cells c t f)) : False := by
  obtain ⟨D, h1, -, -⟩ := h
  obtain ⟨es, it, k, -⟩ := h1
  rw [k] at e
  cases e
section
variable {F : Fence} {nF : Nat}
end
/-- what the second loop keeps -/
structure PtI (w4 W : World) (M Q K : Nat) (gW gH : Int) (S0 : Int → Int → Bool) (pre : List (Int × Int)) (ov : Value) (us : List Value) (tv : Value) : Prop where
  m : ∃ n, n ≤ K ∧ SetN W M K n (partsC K pre S0).1
  t : Boxed W Q 97 tv
  o : Boxed W (Q + 1 + 1) 68 ov
  orow : W.ownsRow (Q + 4) 22 1 ov us.length us
  ul : us.length = (partsC K pre S0).2.length
  ur : ∀ (i : Nat) (u : Value) (L : List (Int × Int)), us[i]? = some u → (partsC K pre S0).2[i]? = some L → W.ownsRow (Q + 4) 72 3 u (refR (inC L) gW.toNat gH.toNat).length (flatE encR (refR (inC L) gW.toNat gH.toNat))
  x : Xt (fun b => b = M ∨ b = Q ∨ b = Q + 1 + 1) w4 W
  s4 : w4.heap.size = Q + 4
  lM : M < Q
theorem PtI.kept {w4 W W' : World} {M Q K : Nat} {gW gH : Int} {S0 : Int → Int → Bool} {pre : List (Int × Int)} {ov tv : Value} {us : List Value} (h : PtI w4 W M Q K gW gH S0 pre ov us tv) {row : Option Nat} (hg : W.grownBy W' row) (hr : ∀ r, row = some r → Q + 4 ≤ r ∧ ∃ o : Obj, W.heap[r]? = some o ∧ o.isCells = false) : PtI w4 W' M Q K gW gH S0 pre ov us tv := by
  obtain ⟨⟨n, hn, m⟩, t, o, orow, ul, ur, x, s4, lM⟩ := h
  exact ⟨⟨n, hn, m.kept hg (fun e => by have := (hr M e.symm).1; omega)⟩, (hg.block Q (Array.getElem?_eq_some_iff.1 t).1 (fun e => by have := (hr _ e.symm).1; omega)).trans t, (hg.block (Q + 1 + 1) (Array.getElem?_eq_some_iff.1 o).1 (fun e => by have := (hr _ e.symm).1; omega)).trans o,
    rowKeptC orow hg (fun r e => (hr r e).2), ul, fun i u L hu hL => rowKeptC (ur i u L hu hL) hg (fun r e => (hr r e).2), x.grown hg (fun r e => .inr (by have := (hr r e).1; omega)), s4, lM⟩
/-- what a round writes -/
def PtF (M Q : Nat) (ov : Value) (b : Nat) : Prop := b = M ∨ b = Q ∨ b = Q + 1 + 1 ∨ ov.ownBlock = some b
theorem PtI.kp {w4 W W' : World} {M Q K B : Nat} {gW gH : Int} {S0 : Int → Int → Bool} {pre : List (Int × Int)} {ov tv : Value} {us : List Value} (h : PtI w4 W M Q K gW gH S0 pre ov us tv) (hx : Xt (PtF M Q ov) W W') (hB : B ≤ M) : KpR B W W' :=
  ⟨⟨hx.os, hx.tape, hx.output, hx.size, fun k hk => hx.block k (by have := h.x.size; have := h.s4; have := h.lM; omega) (fun hf => by
    have h2 := h.lM
    rcases hf with e | e | e | e
    · omega
    · omega
    · omega
    · have := (rowBlock h.orow e).1
      omega)⟩, fun k c f hk => (hx.block k (Array.getElem?_eq_some_iff.1 hk).1 (fun hf => by
    rcases hf with e | e | e | e
    · obtain ⟨n, -, hm⟩ := h.m
      subst e
      exact hm.notRun hk
    · subst e
      rw [show W.heap[k]? = _ from h.t] at hk
      cases hk
    · subst e
      rw [show W.heap[Q + 1 + 1]? = _ from h.o] at hk
      cases hk
    · obtain ⟨-, cur, h3⟩ := rowBlock h.orow e
      rw [h3] at hk
      cases hk)).trans hk⟩
/-- a round that meets nothing -/
theorem PtI.same {w4 W : World} {M Q K : Nat} {gW gH : Int} {S0 : Int → Int → Bool} {pre : List (Int × Int)} {ov tv : Value} {us : List Value} (h : PtI w4 W M Q K gW gH S0 pre ov us tv) {c : Int × Int} (hc : (partsC K pre S0).1 c.1 c.2 = false) : PtI w4 W M Q K gW gH S0 (pre ++ [c]) ov us tv := by
  have e : partsC K (pre ++ [c]) S0 = partsC K pre S0 := by rw [partsC_snoc, partS, hc]; rfl
  obtain ⟨m, t, o, orow, ul, ur, x, s4, lM⟩ := h
  exact ⟨by rw [e]; exact m, t, o, orow, by rw [e]; exact ul, by rw [e]; exact ur, x, s4, lM⟩
/-- a round that meets a part -/
theorem PtI.more {w4 W W' : World} {M Q K n : Nat} {gW gH : Int} {S0 : Int → Int → Bool} {pre : List (Int × Int)} {ov tv ov' tv' v : Value} {us : List Value} (h : PtI w4 W M Q K gW gH S0 pre ov us tv) {c : Int × Int} (hc : (partsC K pre S0).1 c.1 c.2 = true) (hx : Xt (PtF M Q ov) W W')
    (hn : n ≤ K) (hm : SetN W' M K n (floodC K c ((partsC K pre S0).1, [])).1) (ht : Boxed W' Q 97 tv') (ho : Boxed W' (Q + 1 + 1) 68 ov') (hrow : W'.ownsRow (Q + 4) 22 1 ov' (us.length + 1) (us ++ [v]))
    (hv : W'.ownsRow (Q + 4) 72 3 v (refR (inC (floodC K c ((partsC K pre S0).1, [])).2) gW.toNat gH.toNat).length (flatE encR (refR (inC (floodC K c ((partsC K pre S0).1, [])).2) gW.toNat gH.toNat))) : PtI w4 W' M Q K gW gH S0 (pre ++ [c]) ov' (us ++ [v]) tv' := by
  have e : partsC K (pre ++ [c]) S0 = ((floodC K c ((partsC K pre S0).1, [])).1, (partsC K pre S0).2 ++ [(floodC K c ((partsC K pre S0).1, [])).2]) := by rw [partsC_snoc, partS, if_pos hc]
  have hkp := h.kp hx (Nat.le_refl M)
  obtain ⟨m, t, o, orow, ul, ur, x, s4, lM⟩ := h
  refine ⟨⟨n, hn, by rw [e]; exact hm⟩, ht, ho, by simpa using hrow, by rw [e]; simp [ul], ?_, x.transG hx (fun b hb => hb) (fun b hb hf => ?_), s4, lM⟩
  · rw [e]
    intro i u L hu hL
    dsimp only at hL
    by_cases hi : i < us.length
    · rw [List.getElem?_append_left hi] at hu
      rw [List.getElem?_append_left (by omega)] at hL
      have hr := ur i u L hu hL
      refine rowOfBlock hr fun g hg => ?_
      obtain ⟨-, cur, hh⟩ := rowBlock hr hg
      rw [hkp.2 g _ _ hh, hh]
    · have hl := (List.getElem?_eq_some_iff.1 hu).1
      simp only [List.length_append, List.length_singleton] at hl
      obtain rfl : i = us.length := by omega
      rw [List.getElem?_append_right (by omega)] at hu
      rw [ul, List.getElem?_append_right (by omega)] at hL
      simp at hu hL
      subst hu hL
      exact hv
  · rcases hf with e | e | e | e
    · exact .inl e
    · exact .inr (.inl e)
    · exact .inr (.inr e)
    · have := (rowBlock orow e).1
      omega
end Go.Proofs.Ytnbdnnbeiohmgaa
