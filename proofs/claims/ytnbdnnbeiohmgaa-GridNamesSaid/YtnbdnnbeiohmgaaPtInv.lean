/- grid.Parts: what the second loop keeps. -/
import Derived.Test.YtnbdnnbeiohmgaaPtPlain
import Derived.Test.YtnbdnnbeiohmgaaPtIter
namespace Go.Proofs.Ytnbdnnbeiohmgaa
open Go.RowKit Go.Maps Go.Shelf Go.Lib

/-- all but some blocks is as it was -/
structure Xt (F : Nat → Prop) (w w' : World) : Prop where
  os : w'.os = w.os
  tape : w'.tape = w.tape
  output : w'.output = w.output
  size : w.heap.size ≤ w'.heap.size
  block : ∀ k, k < w.heap.size → ¬ F k → w'.heap[k]? = w.heap[k]?
theorem Xt.refl (F : Nat → Prop) (w : World) : Xt F w w := ⟨rfl, rfl, rfl, Nat.le_refl _, fun _ _ _ => rfl⟩
theorem Xt.grown {F : Nat → Prop} {w w1 w2 : World} {row : Option Nat} (h : Xt F w w1) (hg : w1.grownBy w2 row) (hr : ∀ r, row = some r → F r ∨ w.heap.size ≤ r) : Xt F w w2 :=
  ⟨hg.os.trans h.os, hg.tape.trans h.tape, hg.output.trans h.output, Nat.le_trans h.size hg.size, fun k hk hf => (hg.block k (Nat.lt_of_lt_of_le hk h.size) (fun e => (hr k e.symm).elim hf (fun h => by omega))).trans (h.block k hk hf)⟩
theorem Xt.thenBelow {F : Nat → Prop} {w w1 w2 : World} {n : Nat} (h : Xt F w w1) (hb : Below n w1 w2) (hn : w.heap.size ≤ n) : Xt F w w2 :=
  ⟨hb.os.trans h.os, hb.tape.trans h.tape, hb.output.trans h.output, Nat.le_trans h.size hb.size, fun k hk hf => (hb.block k (by omega)).trans (h.block k hk hf)⟩
theorem Xt.trans {F : Nat → Prop} {w w1 w2 : World} (h : Xt F w w1) (k : Xt F w1 w2) : Xt F w w2 :=
  ⟨k.os.trans h.os, k.tape.trans h.tape, k.output.trans h.output, Nat.le_trans h.size k.size, fun j hj hf => (k.block j (Nat.lt_of_lt_of_le hj h.size) hf).trans (h.block j hj hf)⟩
theorem Xt.transG {F G E : Nat → Prop} {w w1 w2 : World} (h : Xt F w w1) (k : Xt G w1 w2) (hF : ∀ b, F b → E b) (hG : ∀ b, b < w.heap.size → G b → E b) : Xt E w w2 :=
  ⟨k.os.trans h.os, k.tape.trans h.tape, k.output.trans h.output, Nat.le_trans h.size k.size, fun j hj hf => (k.block j (Nat.lt_of_lt_of_le hj h.size) (fun e => hf (hG j hj e))).trans (h.block j hj (fun e => hf (hF j e)))⟩
theorem Xt.below {F : Nat → Prop} {w W W' : World} {n : Nat} (hb : Below n w W) (h : Xt F W W') (hn : n ≤ W.heap.size) (hS : ∀ b, F b → n ≤ b) : Below n w W' :=
  ⟨h.os.trans hb.os, h.tape.trans hb.tape, h.output.trans hb.output, Nat.le_trans hb.size h.size, fun k hk => (h.block k (by omega) (fun e => by have := hS k e; omega)).trans (hb.block k hk)⟩
theorem Xt.cell {F : Nat → Prop} {W W' : World} (h : Xt F W W') {a : Addr} (ha : a.block < W.heap.size) (hS : ¬ F a.block) : W'.cell? a = W.cell? a := World.cell?_of_block (h.block _ ha hS)
theorem Xt.ofTl {F : Nat → Prop} {M T : Nat} {w w1 w2 : World} {vs' : Nat → Value} (h : Xt F w w1) (k : Tl M T w1 (fun _ => .slice none 0 0) w2 vs') (hM : F M) (hT : w.heap.size ≤ T) : Xt F w w2 :=
  ⟨k.os.trans h.os, k.tape.trans h.tape, k.output.trans h.output, Nat.le_trans h.size k.size, fun j hj hf => (k.un j (Nat.lt_of_lt_of_le hj h.size) (by omega) (fun e => hf (e ▸ hM)) (fun i _ e => by simp [Value.ownBlock] at e)).1.trans (h.block j hj hf)⟩
theorem xtOwn {β : Type} {F : Nat → Prop} {W : World} : OwnFrom W.heap.size (fun (_ : β) W' => Xt F W W') := fun _ X Y row hs hg hr =>
  ⟨hg.os.trans hs.os, hg.tape.trans hs.tape, hg.output.trans hs.output, Nat.le_trans hs.size hg.size, fun b hb hS => (hg.block b (Nat.lt_of_lt_of_le hb hs.size) (fun e => by have := (hr b e.symm).1; omega)).trans (hs.block b hb hS)⟩
theorem rowKeptC {W W' : World} {base : Nat} {e : TypeId} {z n : Nat} {v : Value} {xs : List Value} {row : Option Nat} (h : W.ownsRow base e z v n xs) (hg : W.grownBy W' row) (hr : ∀ r, row = some r → ∃ o : Obj, W.heap[r]? = some o ∧ o.isCells = false) : W'.ownsRow base e z v n xs := by
  refine h.kept hg ?_
  cases hv : v.ownBlock with
  | none => exact .inl rfl
  | some g =>
    refine .inr fun e => ?_
    obtain ⟨o, ho, hc⟩ := hr g e.symm
    rcases h.2 with ⟨rfl, -⟩ | ⟨g', cap, cur, rfl, -, hh, -⟩
    · simp [Value.ownBlock] at hv
    · simp [Value.ownBlock] at hv
      subst hv
      rw [hh] at ho
      cases ho
      cases hc
/-- the block of an own row -/
theorem rowBlock {W : World} {base : Nat} {e : TypeId} {z n : Nat} {v : Value} {xs : List Value} {g : Nat} (h : W.ownsRow base e z v n xs) (hg : v.ownBlock = some g) : base ≤ g ∧ ∃ cur, W.heap[g]? = some (.cells cur e (0, 0)) := by
  rcases h.2 with ⟨rfl, -⟩ | ⟨g', cap, cur, rfl, h1, h2, -⟩
  · simp [Value.ownBlock] at hg
  · simp [Value.ownBlock] at hg
    subst hg
    exact ⟨h1, cur, h2⟩
theorem rowOfBlock {W W' : World} {base : Nat} {e : TypeId} {z n : Nat} {v : Value} {xs : List Value} (h : W.ownsRow base e z v n xs) (hb : ∀ g, v.ownBlock = some g → W'.heap[g]? = W.heap[g]?) : W'.ownsRow base e z v n xs := by
  refine ⟨h.1, ?_⟩
  rcases h.2 with h | ⟨g, cap, cur, rfl, h1, h2, h3⟩
  · exact .inl h
  · exact .inr ⟨g, cap, cur, rfl, h1, (hb g rfl).trans h2, h3⟩
theorem rowSlice {W : World} {base : Nat} {e : TypeId} {z n : Nat} {v : Value} {xs : List Value} (h : W.ownsRow base e z v n xs) : ∃ A c, v = .slice A n c := by
  rcases h.2 with ⟨rfl, rfl⟩ | ⟨g, cap, cur, rfl, -⟩
  · exact ⟨_, _, rfl⟩
  · exact ⟨_, _, rfl⟩
theorem rowLst {α : Type} {enc : α → List Value} {k : Nat} (hk : ∀ x, (enc x).length = k) {w : World} {n₀ : Nat} {e : TypeId} {v : Value} {L : List α} (h : w.ownsRow n₀ e k v L.length (flatE enc L)) : Lst k enc w v L := by
  obtain ⟨h0, h1⟩ := h
  rcases h1 with ⟨rfl, h1⟩ | ⟨g, cap, cur, rfl, h2, h3, h4, h5, h6, h7⟩
  · have : L = [] := by simpa using h1
    subst this
    exact Lst.nil _
  · refine ⟨_, _, rfl, h4, h5, fun _ => ⟨g, 0, rfl, (Array.getElem?_eq_some_iff.1 h3).1, fun j i x u hj hi => ?_⟩⟩
    have h8 := flatE_get hk L j i x u hj hi
    rw [← h7] at h8
    rw [List.getElem?_take] at h8
    split at h8
    · unfold World.cell?
      rw [h3]
      simpa using h8
    · simp at h8
theorem flat1 : ∀ us : List Value, flatE enc1 us = us
  | [] => rfl
  | u :: us => by
    have := flat1 us
    simp only [flatE, List.flatMap_cons] at this ⊢
    rw [this]
    rfl
theorem rowMono {W : World} {b b' : Nat} {e : TypeId} {z n : Nat} {v : Value} {xs : List Value} (h : W.ownsRow b e z v n xs) (hb : b' ≤ b) : W.ownsRow b' e z v n xs := by
  refine ⟨h.1, ?_⟩
  rcases h.2 with h | ⟨g, cap, cur, rfl, h1, h2⟩
  · exact .inl h
  · exact .inr ⟨g, cap, cur, rfl, by omega, h2⟩
theorem SetN.made (w : World) : SetN (w.alloc (.map #[] 0)) w.heap.size 0 0 fun _ _ => false := ⟨.map [], World.ownsMap_made _ _ _ _, fun _ _ _ _ => ⟨rfl, rfl⟩, Nat.le_refl _⟩
theorem SetN.kept {w w' : World} {b N n : Nat} {S : Int → Int → Bool} {row : Option Nat} (h : SetN w b N n S) (hg : w.grownBy w' row) (hne : some b ≠ row) : SetN w' b N n S := h.of_block (hg.block b h.lt hne)
theorem isI64_of {x : Int} (h : -9223372036854775808 ≤ x ∧ x ≤ 9223372036854775807) : isI64 x := by unfold isI64; omega
/-- a cell of the grid -/
def PtP (W H : Int) (c : Int × Int) : Prop := (0 ≤ c.1 ∧ c.1 < W) ∧ 0 ≤ c.2 ∧ c.2 < H
theorem SetN.ext {w : World} {b N n : Nat} {S S' : Int → Int → Bool} (h : SetN w b N n S) (e : ∀ p q, S p q = S' p q) : SetN w b N n S' := by
  obtain rfl : S = S' := funext fun p => funext fun q => e p q
  exact h
def valsC {W H : Int} (l : List { c : Int × Int // PtP W H c }) : List (Int × Int) := l.map (·.1)
theorem valsC_snoc {W H : Int} (l : List { c : Int × Int // PtP W H c }) (c : { c : Int × Int // PtP W H c }) : valsC (l ++ [c]) = valsC l ++ [c.1] := by simp [valsC]
theorem valsC_len {W H : Int} (l : List { c : Int × Int // PtP W H c }) : (valsC l).length = l.length := by simp [valsC]
theorem SetN.notRun {w : World} {b N n : Nat} {S : Int → Int → Bool} (h : SetN w b N n S) {c : Array Value} {t : TypeId} {f : Nat × Nat} (e : w.heap[b]? = some (.cells c t f)) : False := by
  obtain ⟨D, h1, -, -⟩ := h
  obtain ⟨es, it, k, -⟩ := h1
  rw [k] at e
  cases e
section
variable {F : Fence} {nF : Nat}
theorem wpListIn_update_setN (w : World) {ops : Array Oper} {rest : List Oper} {o : Oper} {a : Act} {Q : Exit → Act → World → Prop}
    (hg : o.guard = none) (m x v : Operand) (t : TypeId) (hop : o.op = Op.mapUpdate t m x v) (ht : Try.prog.underlying t = some (.map 39 4)) (b n : Nat) (S : Int → Int → Bool)
    (hm : a.eval m = .map (some b)) (hs : SetN w b n n S) (hn : n < maxLen) (cx cy : Int) (hx : a.eval x = .agg #[.int .i64 cx, .int .i64 cy]) (hv : a.eval v = .bool true) (wx : isI64 cx) (wy : isI64 cy)
    (hK : ∀ w', SetN w' b (n + 1) (n + 1) (fun p q => if p = cx ∧ q = cy then true else S p q) → w.grownBy w' (some b) → wpListIn F nF Try.prog ops Q rest (a.put o.dst undef) w') :
    wpListIn F nF Try.prog ops Q (o :: rest) a w := by
  obtain ⟨D, h1, h2, h3⟩ := hs
  refine wpListIn_mapUpdate_own w hg m x v t hop 39 4 lawC ht _ b n D hm h1 hn _ _ (cellK cx cy) hx hv (keyOfC wx wy) _ [] (plainElem_bool Try.underlying4 true) fun w' hw' hg' => hK w' ⟨_, hw', h2.put ?_ wx wy, ?_⟩ hg'
  · exact h1.isMap
  · have h4 := size_put (k := cellK cx cy) (h1.tidy lawC) (DataW.lit (H := Unit) (.bool true))
    rw [h4]
    split <;> omega
theorem wpListIn_lookup_setN (w : World) {ops : Array Oper} {rest : List Oper} {o : Oper} {a : Act} {Q : Exit → Act → World → Prop}
    (hg : o.guard = none) (m x : Operand) (t : TypeId) (hop : o.op = Op.lookup t m x false) (ht : Try.prog.underlying t = some (.map 39 4)) (b N n : Nat) (S : Int → Int → Bool)
    (hm : a.eval m = .map (some b)) (hs : SetN w b N n S) (cx cy : Int) (hx : a.eval x = .agg #[.int .i64 cx, .int .i64 cy]) (wx : isI64 cx) (wy : isI64 cy)
    (hK : wpListIn F nF Try.prog ops Q rest (a.put o.dst (.bool (S cx cy))) w) : wpListIn F nF Try.prog ops Q (o :: rest) a w := by
  obtain ⟨D, h1, h2, -⟩ := hs
  exact wpListIn_lookup_setT w hg m x t hop ht b N S hm ⟨D, h1, h2⟩ cx cy _ rfl hx wx wy hK
end
theorem infoRow : (Try.prog.info? 22).map (fun i => (i.zero, i.size, i.bytes)) = some (some (.slice none 0 0), 1, 24) := by kernel_rfl

/-- what the second loop keeps -/
structure PtI (w4 W : World) (M Q K : Nat) (gW gH : Int) (S0 : Int → Int → Bool) (pre : List (Int × Int)) (ov : Value) (us : List Value) (tv : Value) : Prop where
  m : ∃ n, n ≤ K ∧ SetN W M K n (partsC K pre S0).1
  t : Boxed W Q 97 tv
  o : Boxed W (Q + 1 + 1) 68 ov
  orow : W.ownsRow (Q + 4) 22 1 ov us.length us
  ul : us.length = (partsC K pre S0).2.length
  ur : ∀ (i : Nat) (u : Value) (L : List (Int × Int)), us[i]? = some u → (partsC K pre S0).2[i]? = some L → W.ownsRow (Q + 4) 72 3 u (refR (inC L) gW.toNat gH.toNat).length (flatE encR (refR (inC L) gW.toNat gH.toNat))
  x : Xt (fun b => b = M ∨ b = Q ∨ b = Q + 1 + 1) w4 W
  s4 : w4.heap.size = Q + 4
  lM : M < Q
theorem PtI.kept {w4 W W' : World} {M Q K : Nat} {gW gH : Int} {S0 : Int → Int → Bool} {pre : List (Int × Int)} {ov tv : Value} {us : List Value} (h : PtI w4 W M Q K gW gH S0 pre ov us tv) {row : Option Nat} (hg : W.grownBy W' row) (hr : ∀ r, row = some r → Q + 4 ≤ r ∧ ∃ o : Obj, W.heap[r]? = some o ∧ o.isCells = false) : PtI w4 W' M Q K gW gH S0 pre ov us tv := by
  obtain ⟨⟨n, hn, m⟩, t, o, orow, ul, ur, x, s4, lM⟩ := h
  exact ⟨⟨n, hn, m.kept hg (fun e => by have := (hr M e.symm).1; omega)⟩, (hg.block Q (Array.getElem?_eq_some_iff.1 t).1 (fun e => by have := (hr _ e.symm).1; omega)).trans t, (hg.block (Q + 1 + 1) (Array.getElem?_eq_some_iff.1 o).1 (fun e => by have := (hr _ e.symm).1; omega)).trans o,
    rowKeptC orow hg (fun r e => (hr r e).2), ul, fun i u L hu hL => rowKeptC (ur i u L hu hL) hg (fun r e => (hr r e).2), x.grown hg (fun r e => .inr (by have := (hr r e).1; omega)), s4, lM⟩
/-- what a round writes -/
def PtF (M Q : Nat) (ov : Value) (b : Nat) : Prop := b = M ∨ b = Q ∨ b = Q + 1 + 1 ∨ ov.ownBlock = some b
theorem PtI.keepsFrom {w4 W W' : World} {M Q K : Nat} {gW gH : Int} {S0 : Int → Int → Bool} {pre : List (Int × Int)} {ov tv : Value} {us : List Value} (h : PtI w4 W M Q K gW gH S0 pre ov us tv) (hx : Xt (PtF M Q ov) W W') : KeepsFrom (Q + 4) W W' :=
  ⟨hx.size, fun k o hk ho hc => (hx.block k (Array.getElem?_eq_some_iff.1 ho).1 (fun hf => by
    have h1 := h.s4
    have h2 := h.lM
    rcases hf with e | e | e | e
    · omega
    · omega
    · omega
    · obtain ⟨-, cur, h3⟩ := rowBlock h.orow e
      rw [h3] at ho
      cases ho
      cases hc)).trans ho⟩
theorem PtI.kp {w4 W W' : World} {M Q K B : Nat} {gW gH : Int} {S0 : Int → Int → Bool} {pre : List (Int × Int)} {ov tv : Value} {us : List Value} (h : PtI w4 W M Q K gW gH S0 pre ov us tv) (hx : Xt (PtF M Q ov) W W') (hB : B ≤ M) : KpR B W W' :=
  ⟨⟨hx.os, hx.tape, hx.output, hx.size, fun k hk => hx.block k (by have := h.x.size; have := h.s4; have := h.lM; omega) (fun hf => by
    have h2 := h.lM
    rcases hf with e | e | e | e
    · omega
    · omega
    · omega
    · have := (rowBlock h.orow e).1
      omega)⟩, fun k c f hk => (hx.block k (Array.getElem?_eq_some_iff.1 hk).1 (fun hf => by
    rcases hf with e | e | e | e
    · obtain ⟨n, -, hm⟩ := h.m
      subst e
      exact hm.notRun hk
    · subst e
      rw [show W.heap[k]? = _ from h.t] at hk
      cases hk
    · subst e
      rw [show W.heap[Q + 1 + 1]? = _ from h.o] at hk
      cases hk
    · obtain ⟨-, cur, h3⟩ := rowBlock h.orow e
      rw [h3] at hk
      cases hk)).trans hk⟩
/-- a round that meets nothing -/
theorem PtI.same {w4 W : World} {M Q K : Nat} {gW gH : Int} {S0 : Int → Int → Bool} {pre : List (Int × Int)} {ov tv : Value} {us : List Value} (h : PtI w4 W M Q K gW gH S0 pre ov us tv) {c : Int × Int} (hc : (partsC K pre S0).1 c.1 c.2 = false) : PtI w4 W M Q K gW gH S0 (pre ++ [c]) ov us tv := by
  have e : partsC K (pre ++ [c]) S0 = partsC K pre S0 := by rw [partsC_snoc, partS, hc]; rfl
  obtain ⟨m, t, o, orow, ul, ur, x, s4, lM⟩ := h
  exact ⟨by rw [e]; exact m, t, o, orow, by rw [e]; exact ul, by rw [e]; exact ur, x, s4, lM⟩
/-- a round that meets a part -/
theorem PtI.more {w4 W W' : World} {M Q K n : Nat} {gW gH : Int} {S0 : Int → Int → Bool} {pre : List (Int × Int)} {ov tv ov' tv' v : Value} {us : List Value} (h : PtI w4 W M Q K gW gH S0 pre ov us tv) {c : Int × Int} (hc : (partsC K pre S0).1 c.1 c.2 = true) (hx : Xt (PtF M Q ov) W W')
    (hn : n ≤ K) (hm : SetN W' M K n (floodC K c ((partsC K pre S0).1, [])).1) (ht : Boxed W' Q 97 tv') (ho : Boxed W' (Q + 1 + 1) 68 ov') (hrow : W'.ownsRow (Q + 4) 22 1 ov' (us.length + 1) (us ++ [v]))
    (hv : W'.ownsRow (Q + 4) 72 3 v (refR (inC (floodC K c ((partsC K pre S0).1, [])).2) gW.toNat gH.toNat).length (flatE encR (refR (inC (floodC K c ((partsC K pre S0).1, [])).2) gW.toNat gH.toNat))) : PtI w4 W' M Q K gW gH S0 (pre ++ [c]) ov' (us ++ [v]) tv' := by
  have e : partsC K (pre ++ [c]) S0 = ((floodC K c ((partsC K pre S0).1, [])).1, (partsC K pre S0).2 ++ [(floodC K c ((partsC K pre S0).1, [])).2]) := by rw [partsC_snoc, partS, if_pos hc]
  have hkp := h.kp hx (Nat.le_refl M)
  obtain ⟨m, t, o, orow, ul, ur, x, s4, lM⟩ := h
  refine ⟨⟨n, hn, by rw [e]; exact hm⟩, ht, ho, by simpa using hrow, by rw [e]; simp [ul], ?_, x.transG hx (fun b hb => hb) (fun b hb hf => ?_), s4, lM⟩
  · rw [e]
    intro i u L hu hL
    dsimp only at hL
    by_cases hi : i < us.length
    · rw [List.getElem?_append_left hi] at hu
      rw [List.getElem?_append_left (by omega)] at hL
      have hr := ur i u L hu hL
      refine rowOfBlock hr fun g hg => ?_
      obtain ⟨-, cur, hh⟩ := rowBlock hr hg
      rw [hkp.2 g _ _ hh, hh]
    · have hl := (List.getElem?_eq_some_iff.1 hu).1
      simp only [List.length_append, List.length_singleton] at hl
      obtain rfl : i = us.length := by omega
      rw [List.getElem?_append_right (by omega)] at hu
      rw [ul, List.getElem?_append_right (by omega)] at hL
      simp at hu hL
      subst hu hL
      exact hv
  · rcases hf with e | e | e | e
    · exact .inl e
    · exact .inr (.inl e)
    · exact .inr (.inr e)
    · have := (rowBlock orow e).1
      omega
end Go.Proofs.Ytnbdnnbeiohmgaa
