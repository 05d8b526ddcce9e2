/- grid.Parts: the inner function fill: all that hangs together with a cell. -/
import Derived.Test.YtnbdnnbeiohmgaaGrB
import Derived.Test.YtnbdnnbeiohmgaaMapA
import Derived.Test.YtnbdnnbeiohmgaaGrCells
import Derived.Deep.Cut
namespace Go.Proofs.Ytnbdnnbeiohmgaa
open Go.RowKit Go.Maps

/-! ### a set that loses cells -/
def SetN (w : World) (b N n : Nat) (S : Int → Int → Bool) : Prop := ∃ D : DataW Unit, w.ownsMap Try.prog 39 (plainElem Try.prog 4) b N D ∧ SetD D S ∧ Maps.size D ≤ n
theorem SetN.setC {w : World} {b N n : Nat} {S : Int → Int → Bool} (h : SetN w b N n S) : SetC w b N S := by
  obtain ⟨D, h1, h2, -⟩ := h
  exact ⟨D, h1, fun x y hx hy => (h2 x y hx hy).1⟩
theorem SetN.of_block {w w' : World} {b N n : Nat} {S : Int → Int → Bool} (h : SetN w b N n S) (hb : w'.heap[b]? = w.heap[b]?) : SetN w' b N n S := by
  obtain ⟨D, ⟨es, clock, hh, F, hs, hD⟩, h2⟩ := h
  exact ⟨D, ⟨es, clock, hb.trans hh, F, hs, hD⟩, h2⟩
theorem SetN.lt {w : World} {b N n : Nat} {S : Int → Int → Bool} (h : SetN w b N n S) : b < w.heap.size := h.setC.lt
theorem SetN.more {w : World} {b N n n' : Nat} {S : Int → Int → Bool} (h : SetN w b N n S) (hn : n ≤ n') : SetN w b N n' S := by
  obtain ⟨D, h1, h2, h3⟩ := h
  exact ⟨D, h1, h2, Nat.le_trans h3 hn⟩
theorem SetN.pos {w : World} {b N n : Nat} {S : Int → Int → Bool} (h : SetN w b N n S) {x y : Int} (hx : isI64 x) (hy : isI64 y) (hs : S x y = true) : 0 < n := by
  obtain ⟨D, h1, h2, h3⟩ := h
  have h4 := (h2 x y hx hy).2
  rw [hs] at h4
  have h5 := size_del (k := cellK x y) (h1.tidy lawC)
  rw [if_pos h4] at h5
  omega
def remS (S : Int → Int → Bool) (x y : Int) : Int → Int → Bool := fun p q => if p = x ∧ q = y then false else S p q
theorem SetD.del {D : DataW Unit} {S : Int → Int → Bool} (h : SetD D S) {cx cy : Int} (wx : isI64 cx) (wy : isI64 cy) : SetD (D.del (cellK cx cy)) (remS S cx cy) := by
  intro p q hp hq
  unfold remS
  by_cases e : p = cx ∧ q = cy
  · rw [if_pos e, e.1, e.2]
    exact ⟨atKey_del_same _, has_del_same⟩
  · rw [if_neg e, atKey_del_other (fun h => e (cellK_inj hp hq wx wy h)) _, has_del_other (fun h => e (cellK_inj hp hq wx wy h))]
    exact h p q hp hq
theorem wpList_delete_setN (w : World) {ops : Array Oper} {rest : List Oper} {o : Oper} {a : Act} {Q : Exit → Act → World → Prop}
    (hg : o.guard = none) (m x : Operand) (t : TypeId) (hop : o.op = Op.call { callee := Callee.builtin Builtin.delete, args := #[m, x], argTypes := #[t, 39] }) (ht : Try.prog.underlying t = some (.map 39 4)) (b N n : Nat) (S : Int → Int → Bool)
    (hm : a.eval m = .map (some b)) (hs : SetN w b N n S) (cx cy : Int) (hx : a.eval x = .agg #[.int .i64 cx, .int .i64 cy]) (wx : isI64 cx) (wy : isI64 cy) (hc : S cx cy = true)
    (hK : ∀ w', SetN w' b N (n - 1) (remS S cx cy) → w.grownBy w' (some b) → wpList Try.prog ops Q rest (a.put o.dst (.tuple #[])) w') :
    wpList Try.prog ops Q (o :: rest) a w := by
  obtain ⟨D, h1, h2, h3⟩ := hs
  refine wpList_delete_own w hg m x t 39 hop 4 lawC ht _ b N D hm h1 _ (cellK cx cy) hx (keyOfC wx wy) fun w' hw' ht' => hK w' ⟨_, hw', h2.del wx wy, ?_⟩ ht'.grown
  have h4 := (h2 cx cy wx wy).2
  rw [hc] at h4
  have h5 := size_del (k := cellK cx cy) (h1.tidy lawC)
  rw [if_pos h4] at h5
  omega

/-! ### what a table and a set may turn -/
structure Tl (M T : Nat) (w : World) (vs : Nat → Value) (w' : World) (vs' : Nat → Value) : Prop where
  os : w'.os = w.os
  tape : w'.tape = w.tape
  output : w'.output = w.output
  size : w.heap.size ≤ w'.heap.size
  un : ∀ j, j < w.heap.size → j ≠ T → j ≠ M → (∀ i, i < 256 → (vs i).ownBlock ≠ some j) → w'.heap[j]? = w.heap[j]? ∧ ∀ i, i < 256 → (vs' i).ownBlock ≠ some j
theorem Tl.refl (M T : Nat) (w : World) (vs : Nat → Value) : Tl M T w vs w vs := ⟨rfl, rfl, rfl, Nat.le_refl _, fun _ _ _ _ h => ⟨rfl, h⟩⟩
theorem Tl.trans {M T : Nat} {a b c : World} {u v x : Nat → Value} (h : Tl M T a u b v) (k : Tl M T b v c x) : Tl M T a u c x :=
  ⟨k.os.trans h.os, k.tape.trans h.tape, k.output.trans h.output, Nat.le_trans h.size k.size, fun j hj h1 h2 h3 => by
    obtain ⟨e1, e2⟩ := h.un j hj h1 h2 h3
    obtain ⟨e3, e4⟩ := k.un j (Nat.lt_of_lt_of_le hj h.size) h1 h2 e2
    exact ⟨e3.trans e1, e4⟩⟩
theorem Tl.of_below {M T : Nat} {a b : World} {u : Nat → Value} (h : Below a.heap.size a b) : Tl M T a u b u := ⟨h.os, h.tape, h.output, h.size, fun j hj _ _ h3 => ⟨h.block j hj, h3⟩⟩
theorem Tl.of_grown {M T : Nat} {a b : World} {u : Nat → Value} (h : a.grownBy b (some M)) : Tl M T a u b u := ⟨h.os, h.tape, h.output, h.size, fun j hj _ h2 h3 => ⟨h.block j hj (fun e => h2 (by cases e; rfl)), h3⟩⟩
theorem Tl.of_add {M T : Nat} {a b : World} {u v : Nat → Value} (h : Below T a b) (k : Untouched a b T u v) : Tl M T a u b v := ⟨h.os, h.tape, h.output, h.size, fun j hj h1 _ h3 => k j hj h1 h3⟩
theorem Tl.alloc {M T : Nat} {a b : World} {u v : Nat → Value} (h : Tl M T a u b v) (o : Obj) : Tl M T a u (b.alloc o) v := h.trans (Tl.of_below ((Below.refl _ _).alloc (Nat.le_refl _) _))
theorem Tl.cell {M T : Nat} {a b : World} {u v : Nat → Value} (h : Tl M T a u b v) {p : Addr} (hp : p.block < a.heap.size) (h1 : p.block ≠ T) (h2 : p.block ≠ M) (h3 : ∀ i, i < 256 → (u i).ownBlock ≠ some p.block) : b.cell? p = a.cell? p :=
  World.cell?_of_block (h.un _ hp h1 h2 h3).1
theorem Tl.set {M T N n : Nat} {a b : World} {u v : Nat → Value} {S : Int → Int → Bool} {f : Nat → List (Int × Int)} (hT : Tab a T u f) (h : Below T a b) (k : Untouched a b T u v) (hM : M < T) (hs : SetN a M N n S) : SetN b M N n S :=
  hs.of_block (h.block M hM)
/-- the table stays where blocks are laid, and where the set turns -/
theorem Tab.kept {w w' : World} {T M : Nat} {vs : Nat → Value} {f : Nat → List (Int × Int)} (h : Tab w T vs f) (hg : w.grownBy w' (some M)) (hM : M < T) : Tab w' T vs f := by
  have hk : ∀ j, j < w.heap.size → T ≤ j → w'.heap[j]? = w.heap[j]? := fun j hj hT => hg.block j hj (fun e => by cases e; omega)
  refine ⟨Nat.lt_of_lt_of_le h.lt hg.size, fun i hi => ?_, fun i hi => ?_, fun i hi => ?_, h.apart⟩
  · exact (World.cell?_of_block (a := ⟨T, i, none⟩) (hk T h.lt (Nat.le_refl _))).trans (h.cell i hi)
  · exact (World.frozen?_of_block (a := ⟨T, i, none⟩) (hk T h.lt (Nat.le_refl _))).trans (h.fz i hi)
  · refine (h.own i hi).kept hg ?_
    cases hv : (vs i).ownBlock with
    | none => exact .inl rfl
    | some g =>
      have := (ownBlock_lt (h.own i hi) hv).1
      exact .inr (fun e => by cases e; omega)

/-! ### the plain law -/
def sidesL (c : Int × Int) : List (Int × Int) := [(c.1 - 1, c.2), (c.1 + 1, c.2), (c.1, c.2 - 1), (c.1, c.2 + 1)]
abbrev FSt := (Int → Int → Bool) × (Nat → List (Int × Int))
def floodF (W H : Int) : Nat → Int × Int → FSt → FSt
  | 0, _, st => st
  | k + 1, c, st => if st.1 c.1 c.2 = true then (sidesL c).foldl (fun s d => floodF W H k d s) (remS st.1 c.1 c.2, addF W H c.2 c.1 (c.1 + 1) st.2) else st
theorem foldl_sub {W H : Int} {k : Nat} (ih : ∀ c st p q, (floodF W H k c st).1 p q = true → st.1 p q = true) : ∀ (l : List (Int × Int)) (st : FSt) p q, (l.foldl (fun s d => floodF W H k d s) st).1 p q = true → st.1 p q = true
  | [], _, _, _, h => h
  | d :: l, st, p, q, h => ih d st p q (foldl_sub ih l _ p q h)
theorem floodF_sub {W H : Int} : ∀ (k : Nat) (c : Int × Int) (st : FSt) p q, (floodF W H k c st).1 p q = true → st.1 p q = true
  | 0, _, _, _, _, h => h
  | k + 1, c, st, p, q, h => by
    rw [floodF] at h
    split at h
    · have := foldl_sub (fun c st p q => floodF_sub k c st p q) _ _ p q h
      dsimp only [remS] at this
      split at this
      · cases this
      · exact this
    · exact h

set_option maxRecDepth 100000 in
set_option maxHeartbeats 4000000 in
theorem sides_gr (x y : Int) (w : World) (hx : -1 ≤ x ∧ x ≤ 100000) (hy : -1 ≤ y ∧ y ≤ 100000) :
    Calls Try.prog 88 #[.agg #[.int .i64 x, .int .i64 y]] w fun e w' => e = .returned (.agg #[.int .i64 (x - 1), .int .i64 y, .int .i64 (x + 1), .int .i64 y, .int .i64 x, .int .i64 (y - 1), .int .i64 x, .int .i64 (y + 1)]) ∧ Below w.heap.size w w' := by
  have e1 : wrap64 (x - 1) = x - 1 := wrapId _ (by omega) (by omega)
  have e2 : wrap64 (x + 1) = x + 1 := wrapId _ (by omega) (by omega)
  have e3 : wrap64 (y - 1) = y - 1 := wrapId _ (by omega) (by omega)
  have e4 : wrap64 (y + 1) = y + 1 := wrapId _ (by omega) (by omega)
  go_enter Try.func88, Try.ntmps88
  go_wp2_with fail
  refine bodyPost_ret (v := .agg #[.int .i64 (x - 1), .int .i64 y, .int .i64 (x + 1), .int .i64 y, .int .i64 x, .int .i64 (y - 1), .int .i64 x, .int .i64 (y + 1)]) (by simp [results, Try.results88, go_sem]) rfl ⟨rfl, ?_⟩
  exact ((Below.refl _ _).alloc (Nat.le_refl _) _).alloc (by simp) _
theorem side0 (a b c d e f g h : Int) (w : World) : (Instr.index 144 (.agg #[.int .i64 a, .int .i64 b, .int .i64 c, .int .i64 d, .int .i64 e, .int .i64 f, .int .i64 g, .int .i64 h]) (.int .i64 0)).run Try.prog w = .ok (.agg #[.int .i64 a, .int .i64 b]) w := by kernel_rfl
theorem side1 (a b c d e f g h : Int) (w : World) : (Instr.index 144 (.agg #[.int .i64 a, .int .i64 b, .int .i64 c, .int .i64 d, .int .i64 e, .int .i64 f, .int .i64 g, .int .i64 h]) (.int .i64 1)).run Try.prog w = .ok (.agg #[.int .i64 c, .int .i64 d]) w := by kernel_rfl
theorem side2 (a b c d e f g h : Int) (w : World) : (Instr.index 144 (.agg #[.int .i64 a, .int .i64 b, .int .i64 c, .int .i64 d, .int .i64 e, .int .i64 f, .int .i64 g, .int .i64 h]) (.int .i64 2)).run Try.prog w = .ok (.agg #[.int .i64 e, .int .i64 f]) w := by kernel_rfl
theorem side3 (a b c d e f g h : Int) (w : World) : (Instr.index 144 (.agg #[.int .i64 a, .int .i64 b, .int .i64 c, .int .i64 d, .int .i64 e, .int .i64 f, .int .i64 g, .int .i64 h]) (.int .i64 3)).run Try.prog w = .ok (.agg #[.int .i64 g, .int .i64 h]) w := by kernel_rfl
theorem side_at (x y : Int) {k : Nat} {d : Int × Int} (hd : (sidesL (x, y))[k]? = some d) (w : World) :
    (Instr.index 144 (.agg #[.int .i64 (x - 1), .int .i64 y, .int .i64 (x + 1), .int .i64 y, .int .i64 x, .int .i64 (y - 1), .int .i64 x, .int .i64 (y + 1)]) (.int .i64 (k : Int))).run Try.prog w = .ok (.agg #[.int .i64 d.1, .int .i64 d.2]) w := by
  match k, hd with
  | 0, hd => simp only [sidesL, List.getElem?_cons_zero, Option.some.injEq] at hd; subst hd; exact side0 _ _ _ _ _ _ _ _ w
  | 1, hd => simp only [sidesL, List.getElem?_cons_succ, List.getElem?_cons_zero, Option.some.injEq] at hd; subst hd; exact side1 _ _ _ _ _ _ _ _ w
  | 2, hd => simp only [sidesL, List.getElem?_cons_succ, List.getElem?_cons_zero, Option.some.injEq] at hd; subst hd; exact side2 _ _ _ _ _ _ _ _ w
  | 3, hd => simp only [sidesL, List.getElem?_cons_succ, List.getElem?_cons_zero, Option.some.injEq] at hd; subst hd; exact side3 _ _ _ _ _ _ _ _ w
  | k + 4, hd => simp [sidesL] at hd

/-- where fill finds what it needs -/
structure PfF (w : World) (LB TB GB FB M T : Nat) (W H S : Int) (vL : Value) : Prop where
  cl : w.cell? ⟨LB, 0, none⟩ = some (.map (some M))
  ct : w.cell? ⟨TB, 0, none⟩ = some (.pointer (some ⟨T, 0, none⟩))
  c0 : w.cell? ⟨GB, 0, none⟩ = some (.int .i64 W)
  c1 : w.cell? ⟨GB, 1, none⟩ = some (.int .i64 H)
  c2 : w.cell? ⟨GB, 2, none⟩ = some (.int .i64 S)
  c3 : w.cell? ⟨GB, 3, none⟩ = some vL
  cf : w.cell? ⟨FB, 0, none⟩ = some (.func (.func 87) #[] #[.pointer (some ⟨LB, 0, none⟩), .pointer (some ⟨TB, 0, none⟩), .pointer (some ⟨GB, 0, none⟩), .pointer (some ⟨FB, 0, none⟩)])
theorem PfF.tl {w w' : World} {LB TB GB FB M T : Nat} {W H S : Int} {vL : Value} {vs vs' : Nat → Value} {f : Nat → List (Int × Int)} (h : PfF w LB TB GB FB M T W H S vL) (hT : Tab w T vs f) (k : Tl M T w vs w' vs') (hl : (LB < T ∧ LB ≠ M) ∧ (TB < T ∧ TB ≠ M) ∧ (GB < T ∧ GB ≠ M) ∧ FB < T ∧ FB ≠ M) : PfF w' LB TB GB FB M T W H S vL := by
  have hTl := hT.lt
  have key : ∀ (b : Nat) (o : Nat), b < T → b ≠ M → w'.cell? ⟨b, o, none⟩ = w.cell? ⟨b, o, none⟩ := fun b o h1 h2 =>
    k.cell (p := ⟨b, o, none⟩) (by show b < _; omega) (by show b ≠ T; omega) h2 (fun i hi e => by have := (ownBlock_lt (hT.own i hi) e).1; dsimp only at this; omega)
  obtain ⟨⟨l1, l2⟩, ⟨t1, t2⟩, ⟨g1, g2⟩, f1, f2⟩ := hl
  exact ⟨(key _ _ l1 l2).trans h.cl, (key _ _ t1 t2).trans h.ct, (key _ _ g1 g2).trans h.c0, (key _ _ g1 g2).trans h.c1, (key _ _ g1 g2).trans h.c2, (key _ _ g1 g2).trans h.c3, (key _ _ f1 f2).trans h.cf⟩
theorem mapCB : Try.prog.underlying 129 = some (.map 39 4) := Try.underlying129
theorem foldl_take {α β : Type} {g : β → α → β} {l : List α} {k : Nat} {d : α} {s : β} (h : l[k]? = some d) : (l.take (k + 1)).foldl g s = g ((l.take k).foldl g s) d := by
  rw [List.take_add_one, h]
  simp

set_option maxRecDepth 100000 in
set_option maxHeartbeats 4000000 in
theorem fill_no (W H S : Int) (vL : Value) (LB TB GB FB M T N n : Nat) (x y : Int) (S0 : Int → Int → Bool) (w : World) (hx : isI64 x) (hy : isI64 y) (hl : LB < w.heap.size) (cl : w.cell? ⟨LB, 0, none⟩ = some (.map (some M))) (hS : SetN w M N n S0) (hs : S0 x y = false) :
    Calls Try.prog 87 #[.agg #[.int .i64 x, .int .i64 y], .pointer (some ⟨LB, 0, none⟩), .pointer (some ⟨TB, 0, none⟩), .pointer (some ⟨GB, 0, none⟩), .pointer (some ⟨FB, 0, none⟩)] w fun e w' => e = .returned (.tuple #[]) ∧ Below w.heap.size w w' := by
  have b1 : Below w.heap.size w (w.alloc (.cells #[.int .i64 x, .int .i64 y] 39)) := (Below.refl _ _).alloc (Nat.le_refl _) _
  have hS1 : SetN (w.alloc (.cells #[.int .i64 x, .int .i64 y] 39)) M N n S0 := hS.of_block (b1.block M hS.lt)
  have cl1 : (w.alloc (.cells #[.int .i64 x, .int .i64 y] 39)).cell? ⟨LB, 0, none⟩ = some (.map (some M)) := (b1.cell (p := ⟨LB, 0, none⟩) hl).trans cl
  have x0 : (w.alloc (.cells #[.int .i64 x, .int .i64 y] 39)).cell? ⟨w.heap.size, 0, none⟩ = some (.int .i64 x) := by simp [go_sem]
  have x1 : (w.alloc (.cells #[.int .i64 x, .int .i64 y] 39)).cell? ⟨w.heap.size, 1, none⟩ = some (.int .i64 y) := by simp [go_sem]
  have HB := Lib.hid b1
  have HS1 := Lib.hid hS1
  have HSF := Lib.hid hs
  have HX := Lib.hid hx
  have HY := Lib.hid hy
  clear hS hS1 b1 hs hx hy cl hl
  go_enter Try.func87, Try.ntmps87
  go_upto_region 1 with fail
  obtain ⟨w1, hw1⟩ : ∃ W, w.alloc (.cells #[.int .i64 x, .int .i64 y] 39) = W := ⟨_, rfl⟩
  rw [hw1] at cl1 x0 x1 HB HS1 ⊢
  clear hw1
  go_wp2_with (at_lookup; refine wpList_lookup_setC _ rfl _ _ _ rfl mapCB M N S0 rfl HS1.out.setC x y rfl HX.out HY.out ?_; rw [HSF.out])
  refine bodyPost_ret (v := .tuple #[]) (by simp [results, Try.results87, go_sem]) rfl ⟨rfl, HB.out⟩
theorem addF_more (W H y a t : Int) (f : Nat → List (Int × Int)) (i : Nat) : (addF W H y a t f i).length ≤ (f i).length + 1 := by
  unfold addF
  split
  · unfold upd
    split
    · rename_i e
      subst e
      simp
    · omega
  · omega
/-- how far the sides are done -/
def FillRel (W H : Int) (k : Nat) (x y : Int) (st : FSt) (M T N K n : Nat) (w : World) (vs : Nat → Value) (v : Value) (wr : World) : Prop := ∃ j : Nat, j ≤ 4 ∧ v = .int .i64 j ∧ ∃ vs' n', n' < n ∧ SetN wr M N n' (((sidesL (x, y)).take j).foldl (fun s d => floodF W H k d s) (remS st.1 x y, addF W H y x (x + 1) st.2)).1 ∧
  Tab wr T vs' (((sidesL (x, y)).take j).foldl (fun s d => floodF W H k d s) (remS st.1 x y, addF W H y x (x + 1) st.2)).2 ∧ (∀ i, ((((sidesL (x, y)).take j).foldl (fun s d => floodF W H k d s) (remS st.1 x y, addF W H y x (x + 1) st.2)).2 i).length + n' ≤ K) ∧ Tl M T w vs wr vs'

set_option maxRecDepth 100000 in
set_option maxHeartbeats 16000000 in
theorem fill_gr (W H S : Int) (vL : Value) (LB TB GB FB M T N K : Nat) (hW : 1 ≤ W ∧ W ≤ 256) (hH : 1 ≤ H ∧ H ≤ 256) (hl : (LB < T ∧ LB ≠ M) ∧ (TB < T ∧ TB ≠ M) ∧ (GB < T ∧ GB ≠ M) ∧ FB < T ∧ FB ≠ M) (hM : M < T) (hK : K ≤ 1000000) :
    ∀ (k : Nat) (x y : Int) (n : Nat) (st : FSt) (vs : Nat → Value) (w : World), n ≤ k → isI64 x → isI64 y → (∀ p q, st.1 p q = true → (0 ≤ p ∧ p < W) ∧ 0 ≤ q ∧ q < H) → PfF w LB TB GB FB M T W H S vL → SetN w M N n st.1 → Tab w T vs st.2 → (∀ i, (st.2 i).length + n ≤ K) →
      Calls Try.prog 87 #[.agg #[.int .i64 x, .int .i64 y], .pointer (some ⟨LB, 0, none⟩), .pointer (some ⟨TB, 0, none⟩), .pointer (some ⟨GB, 0, none⟩), .pointer (some ⟨FB, 0, none⟩)] w fun e w' =>
        e = .returned (.tuple #[]) ∧ ∃ vs' n', n' ≤ n ∧ SetN w' M N n' (floodF W H k (x, y) st).1 ∧ Tab w' T vs' (floodF W H k (x, y) st).2 ∧ (∀ i, ((floodF W H k (x, y) st).2 i).length + n' ≤ K) ∧ Tl M T w vs w' vs' := by
  have early : ∀ (k : Nat) (x y : Int) (n : Nat) (st : FSt) (vs : Nat → Value) (w : World), isI64 x → isI64 y → st.1 x y = false → PfF w LB TB GB FB M T W H S vL → SetN w M N n st.1 → Tab w T vs st.2 → (∀ i, (st.2 i).length + n ≤ K) →
      Calls Try.prog 87 #[.agg #[.int .i64 x, .int .i64 y], .pointer (some ⟨LB, 0, none⟩), .pointer (some ⟨TB, 0, none⟩), .pointer (some ⟨GB, 0, none⟩), .pointer (some ⟨FB, 0, none⟩)] w fun e w' =>
        e = .returned (.tuple #[]) ∧ ∃ vs' n', n' ≤ n ∧ SetN w' M N n' (floodF W H k (x, y) st).1 ∧ Tab w' T vs' (floodF W H k (x, y) st).2 ∧ (∀ i, ((floodF W H k (x, y) st).2 i).length + n' ≤ K) ∧ Tl M T w vs w' vs' := by
    intro k x y n st vs w hx hy hs hF hS hT hfl
    have e : floodF W H k (x, y) st = st := by
      cases k with
      | zero => rfl
      | succ k => rw [floodF, if_neg (by dsimp only; rw [hs]; simp)]
    rw [e]
    refine (fill_no W H S vL LB TB GB FB M T N n x y st.1 w hx hy (by have := hT.lt; omega) hF.cl hS hs).mono ?_
    rintro e w' ⟨rfl, hb⟩
    exact ⟨rfl, vs, n, Nat.le_refl _, hS.of_block (hb.block M hS.lt), hT.below hb, hfl, Tl.of_below hb⟩
  intro k
  induction k with
  | zero =>
    intro x y n st vs w hn hx hy hin hF hS hT hfl
    refine early 0 x y n st vs w hx hy ?_ hF hS hT hfl
    cases h : st.1 x y with
    | false => rfl
    | true => have := hS.pos hx hy h; omega
  | succ k ih =>
    intro x y n st vs w hn hx hy hin hF hS hT hfl
    cases hst : st.1 x y with
    | false => exact early (k + 1) x y n st vs w hx hy hst hF hS hT hfl
    | true =>
      have hxy := hin x y hst
      have hn0 := hS.pos hx hy hst
      have hfold : floodF W H (k + 1) (x, y) st = (sidesL (x, y)).foldl (fun s d => floodF W H k d s) (remS st.1 x y, addF W H y x (x + 1) st.2) := by rw [floodF, if_pos hst]
      rw [hfold]
      have b1 : Below w.heap.size w (w.alloc (.cells #[.int .i64 x, .int .i64 y] 39)) := (Below.refl _ _).alloc (Nat.le_refl _) _
      have k1 : Tl M T w vs (w.alloc (.cells #[.int .i64 x, .int .i64 y] 39)) vs := Tl.of_below b1
      have hF1 := hF.tl hT k1 hl
      have hS1 : SetN (w.alloc (.cells #[.int .i64 x, .int .i64 y] 39)) M N n st.1 := hS.of_block (b1.block M (by have := hT.lt; omega))
      have hT1 := hT.below b1
      have x0 : (w.alloc (.cells #[.int .i64 x, .int .i64 y] 39)).cell? ⟨w.heap.size, 0, none⟩ = some (.int .i64 x) := by simp [go_sem]
      have x1 : (w.alloc (.cells #[.int .i64 x, .int .i64 y] 39)).cell? ⟨w.heap.size, 1, none⟩ = some (.int .i64 y) := by simp [go_sem]
      have hz1 : w.heap.size < (w.alloc (.cells #[.int .i64 x, .int .i64 y] 39)).heap.size := by simp
      have hown1 : ∀ i, i < 256 → (vs i).ownBlock ≠ some w.heap.size := fun i hi e => by have := (ownBlock_lt (hT.own i hi) e).2; omega
      have hTl := hT.lt
      have HIH := Lib.hid ih
      have HIN := Lib.hid hin
      have HT := Lib.hid hT
      have HS1 := Lib.hid hS1
      have HST := Lib.hid hst
      have HX := Lib.hid hx
      have HY := Lib.hid hy
      have HFL := Lib.hid hfl
      have HT1 := Lib.hid hT1
      have HF := Lib.hid hF
      have HK1 := Lib.hid k1
      have HOW := Lib.hid hown1
      obtain ⟨g1, g2, g3, g4, g5, g6, g7⟩ := hF1
      clear ih hin hS hT hS1 hT1 hst hfl hfold early hF k1 hown1 b1 hx hy
      go_enter Try.func87, Try.ntmps87
      go_upto_region 1 with fail
      obtain ⟨X, hX⟩ : ∃ X, w.heap.size = X := ⟨_, rfl⟩
      obtain ⟨w1, hw1⟩ : ∃ W, w.alloc (.cells #[.int .i64 x, .int .i64 y] 39) = W := ⟨_, rfl⟩
      rw [hw1] at g1 g2 g3 g4 g5 g6 g7 x0 x1 hz1 HS1 HT1 HK1 ⊢
      rw [hX] at x0 x1 hz1 hTl HOW ⊢
      clear hw1
      go_upto_region 2 with (at_lookup; refine wpList_lookup_setC _ rfl _ _ _ rfl mapCB M N st.1 rfl HS1.out.setC x y rfl HX.out HY.out ?_; rw [HST.out])
      have hM1 : M < w1.heap.size := HS1.out.lt
      go_upto_region 3 with (at_delete; refine wpList_delete_setN _ rfl _ _ _ rfl mapCB M N n st.1 rfl HS1.out x y rfl HX.out HY.out HST.out ?_; intro w2 hS2 hg2)
      have k2 : Tl M T w vs w2 vs := HK1.out.trans (Tl.of_grown hg2)
      have hF2 := HF.out.tl HT.out k2 hl
      have hT2 := HT1.out.kept hg2 hM
      have hXM : X ≠ M := by omega
      have x0' := (hg2.cell_far ⟨X, 0, none⟩ hz1 (fun e => hXM (Option.some.inj e))).trans x0
      have x1' := (hg2.cell_far ⟨X, 1, none⟩ hz1 (fun e => hXM (Option.some.inj e))).trans x1
      have hadd := add_gr W H S y x (x + 1) vL T vs st.2 w2 hW hH hT2 (fun i _ => by have := HFL.out i; omega)
      have hwx : IntKind.i64.wrap (x + 1) = x + 1 := wrapK _ (by omega) (by omega)
      obtain ⟨h1, h2, h3, h4, h5, h6, h7⟩ := hF2
      have HADD := Lib.hid hadd
      have HS2 := Lib.hid hS2
      have HT2 := Lib.hid hT2
      have HK2 := Lib.hid k2
      have hz2 : X < w2.heap.size := Nat.lt_of_lt_of_le hz1 hg2.size
      clear g1 g2 g3 g4 g5 g6 g7 x0 x1 hg2 hadd hS2 hT2 k2 HS1 HT1 HK1 hz1 hM1
      go_wp2_with fail
      refine HADD.out.mono ?_
      rintro e w3 ⟨rfl, ⟨vs3, hT3, hun⟩, hb3⟩
      have k3 : Tl M T w vs w3 vs3 := HK2.out.trans (Tl.of_add hb3 hun)
      have hS3 : SetN w3 M N (n - 1) (remS st.1 x y) := HS2.out.of_block (hb3.block M hM)
      have hq := hun X hz2 (by omega) HOW.out
      have x0 := (World.cell?_of_block (a := ⟨X, 0, none⟩) hq.1).trans x0'
      have x1 := (World.cell?_of_block (a := ⟨X, 1, none⟩) hq.1).trans x1'
      have hsd := sides_gr x y w3 (by omega) (by omega)
      have HSD := Lib.hid hsd
      have HT3 := Lib.hid hT3
      have HS3 := Lib.hid hS3
      have HK3 := Lib.hid k3
      clear hT3 hS3 k3 hsd hq x0' x1' hun hb3 HADD HS2 HT2 HK2 h1 h2 h3 h4 h5 h6 h7
      go_wp2_with fail
      refine HSD.out.mono ?_
      rintro e w4 ⟨rfl, hb4⟩
      have k4 : Tl M T w vs w4 vs3 := HK3.out.trans (Tl.of_below hb4)
      have hS4 : SetN w4 M N (n - 1) (remS st.1 x y) := HS3.out.of_block (hb4.block M HS3.out.lt)
      have hT4 := HT3.out.below hb4
      have hidx := fun k (d : Int × Int) (h : (sidesL (x, y))[k]? = some d) W => side_at x y h W
      have HIDX := Lib.hid hidx
      have HT4 := Lib.hid hT4
      have HS4 := Lib.hid hS4
      have HK4 := Lib.hid k4
      clear hidx hT4 hS4 k4 hb4 HSD HT3 HS3 HK3 x0 x1 hwx
      go_wp2_with fail
      go_loopw [26] (fun v wr => FillRel W H k x y st M T N K n w vs v wr) (fun v _ => 4 - (intOf v).toNat)
      case atStart =>
        refine ⟨0, by omega, rfl, vs3, n - 1, by omega, HS4.out, HT4.out, fun i => ?_, HK4.out⟩
        have h1 := addF_more W H y x (x + 1) st.2 i
        have h2 := HFL.out i
        simp only [List.take_zero, List.foldl_nil]
        omega
      case round =>
        obtain ⟨j, hj, rfl, vs', n', hn', hSj, hTj, hfj, hkj⟩ := hrel
        by_cases hlt : j < 4
        · obtain ⟨d, hd⟩ : ∃ d, (sidesL (x, y))[j]? = some d := ⟨_, List.getElem?_eq_getElem (by show j < 4; exact hlt)⟩
          have hix := HIDX.out j d hd
          have hst := foldl_take (g := fun s d => floodF W H k d s) (s := (remS st.1 x y, addF W H y x (x + 1) st.2)) hd
          obtain ⟨st2, hst2⟩ : ∃ s, ((sidesL (x, y)).take j).foldl (fun s d => floodF W H k d s) (remS st.1 x y, addF W H y x (x + 1) st.2) = s := ⟨_, rfl⟩
          rw [hst2] at hst hSj hTj hfj
          have hin2 : ∀ p q, st2.1 p q = true → (0 ≤ p ∧ p < W) ∧ 0 ≤ q ∧ q < H := fun p q h => by
            rw [← hst2] at h
            have h1 := foldl_sub (fun c st p q => floodF_sub k c st p q) _ _ p q h
            dsimp only [remS] at h1
            split at h1
            · cases h1
            · exact HIN.out p q h1
          obtain ⟨dx, dy⟩ := d
          have hdd : isI64 dx ∧ isI64 dy := by
            have h4 := List.mem_of_getElem? hd
            simp only [sidesL, List.mem_cons, Prod.mk.injEq, List.not_mem_nil, or_false] at h4
            unfold isI64
            omega
          have ba : Below wr.heap.size wr (wr.alloc (.cells #[.int .i64 dx, .int .i64 dy] 39)) := (Below.refl _ _).alloc (Nat.le_refl _) _
          have ka : Tl M T w vs (wr.alloc (.cells #[.int .i64 dx, .int .i64 dy] 39)) vs' := hkj.trans (Tl.of_below ba)
          have hFa := HF.out.tl HT.out ka hl
          have hSa : SetN (wr.alloc (.cells #[.int .i64 dx, .int .i64 dy] 39)) M N n' st2.1 := hSj.of_block (ba.block M hSj.lt)
          have hTa := hTj.below ba
          have hcall := HIH.out dx dy n' st2 vs' _ (by omega) hdd.1 hdd.2 hin2 hFa hSa hTa hfj
          have x0 : (wr.alloc (.cells #[.int .i64 dx, .int .i64 dy] 39)).cell? ⟨wr.heap.size, 0, none⟩ = some (.int .i64 dx) := by simp [go_sem]
          have x1 : (wr.alloc (.cells #[.int .i64 dx, .int .i64 dy] 39)).cell? ⟨wr.heap.size, 1, none⟩ = some (.int .i64 dy) := by simp [go_sem]
          have hcf := hFa.cf
          have HC := Lib.hid hcall
          have HKA := Lib.hid ka
          have HST2 := Lib.hid hst
          have hj0 : (0 : Int) ≤ j := by omega
          have hj1 : (j : Int) < 4 := by omega
          have hwj : IntKind.i64.wrap ((j : Int) + 1) = j + 1 := wrapK _ (by omega) (by omega)
          clear hcall ka hFa hSa hTa ba hst hst2 hin2 hd hdd hSj hTj hfj hkj
          go_wp2_with fail
          refine HC.out.mono ?_
          rintro e w5 ⟨rfl, vs5, n5, hn5, hS5, hT5, hf5, hk5⟩
          have hrel5 : FillRel W H k x y st M T N K n w vs (.int .i64 ((j + 1 : Nat) : Int)) w5 := by
            refine ⟨j + 1, by omega, rfl, vs5, n5, by omega, ?_, ?_, ?_, HKA.out.trans hk5⟩
            · rw [HST2.out]; exact hS5
            · rw [HST2.out]; exact hT5
            · rw [HST2.out]; exact hf5
          have HR := Lib.hid hrel5
          clear hrel5 hS5 hT5 hf5 hk5 hn5 x0 x1 hcf hix
          go_wp2_with fail
          go_roundw
          case rel =>
            have h5 := HR.out
            rw [show ((j + 1 : Nat) : Int) = (j : Int) + 1 by omega] at h5
            exact h5
          case measure => simp [intOf]; omega
        · obtain rfl : j = 4 := by omega
          have HSj := Lib.hid hSj
          have HTj := Lib.hid hTj
          have Hfj := Lib.hid hfj
          have Hkj := Lib.hid hkj
          clear hSj hTj hfj hkj
          go_wp2_with fail
          go_end0
          exact ⟨rfl, vs', n', by omega, HSj.out, HTj.out, Hfj.out, Hkj.out⟩
end Go.Proofs.Ytnbdnnbeiohmgaa
