/- Sets of cells: a map[Cell]bool that the call makes. -/
import Derived.Maps.OwnOps
import Derived.Maps.Views
import Derived.DeepKeys4
import Derived.MapViews
import Derived.WalkKit
import Derived.Test.YtnbdnnbeiohmgaaProg
namespace Go.Proofs.Ytnbdnnbeiohmgaa
open Go.RowKit Go.Maps

theorem laidOutC : laidOutB Try.prog = true := by kernel_rfl
theorem rowC39 : (39 : TypeId) < Try.prog.types.size := of_decide_eq_true (by kernel_rfl)
theorem wideC : (match Try.prog.underlying 39 with | some (.array _ _) | some (.struct _) => true | _ => false) = true := by rw [Try.underlying39]
set_option maxRecDepth 100000 in
theorem lawC : Keyed Try.prog 39 := Keyed.of_law (deep_law_laid laidOutC (m := 2) (by omega) rowC39 (by kernel_rfl) wideC)
theorem keyTypeC : Try.prog.keyType 39 = true := by kernel_rfl
theorem cellsOfC : Try.prog.cellsOf 39 = 2 := by kernel_rfl
theorem cellsOfI : Try.prog.cellsOf 3 = 1 := by kernel_rfl
theorem sizeC : ∃ n, Try.prog.types.size + 1 = n + 1 + 1 := ⟨Try.prog.types.size - 1, by have h : 1 ≤ Try.prog.types.size := Nat.lt_of_le_of_lt (Nat.zero_le _) rowC39; omega⟩
def isI64 (x : Int) : Prop := -9223372036854775808 ≤ x ∧ x ≤ 9223372036854775807
theorem wf_of {x : Int} (h : isI64 x) : (Lit.int .i64 x).wf = true := by
  unfold isI64 at h
  exact WalkArith.wf_i64 (by omega)
/-- what a cell reads as, as a key -/
def cellK (x y : Int) : Lit := .string (keyBytes [.int .i64 x, .int .i64 y])
theorem keyOfC {x y : Int} (hx : isI64 x) (hy : isI64 y) : keyOf Try.prog 39 (.agg #[.int .i64 x, .int .i64 y]) = some (cellK x y) := by
  obtain ⟨n, hn⟩ := sizeC
  have hf : (Value.agg #[.int .i64 x, .int .i64 y]).formed Try.prog 39 = true := by simp [Value.formed, Try.underlying39, cellsOfC]
  unfold keyOf
  rw [Try.underlying39]
  simp only [keyTypeC, hf, hn, Bool.and_self, if_true]
  simp [Program.keyLits, Try.underlying39, Try.underlying3, cellsOfC, cellsOfI, Value.cells, wf_of hx, wf_of hy, cellK]
theorem cellK_inj {x y x' y' : Int} (hx : isI64 x) (hy : isI64 y) (hx' : isI64 x') (hy' : isI64 y') (h : cellK x y = cellK x' y') : x = x' ∧ y = y' := by
  have h1 := keyOfC hx hy
  rw [h] at h1
  have h2 := lawC.inj h1 (keyOfC hx' hy')
  simp only [Value.agg.injEq, Array.mk.injEq, List.cons.injEq, Value.int.injEq, and_true, true_and] at h2
  exact h2
theorem plainElem_bool_inv {P : Program} {e : TypeId} (he : P.underlying e = some .bool) {v : Value} {u : Bool} {ps : List MemPlace} (h : plainElem (H := Unit) P e v = some (.lit (.bool u), ps)) : v = .bool u := by
  unfold plainElem at h
  rw [he] at h
  cases v <;> simp_all
theorem zeroBool (w : World) : (zeroValue 4).run Try.prog w = .ok (.bool false) w := by kernel_rfl

/-- block b is a set of cells, kept as a map to bools: whether a cell is in, false where there is none -/
def SetC (w : World) (b n : Nat) (S : Int → Int → Bool) : Prop :=
  ∃ D : DataW Unit, w.ownsMap Try.prog 39 (plainElem Try.prog 4) b n D ∧ ∀ x y, isI64 x → isI64 y → D.atKey (cellK x y) (.lit (.bool false)) = .lit (.bool (S x y))
theorem SetC.made (w : World) : SetC (w.alloc (.map #[] 0)) w.heap.size 0 fun _ _ => false := ⟨.map [], World.ownsMap_made _ _ _ _, fun _ _ _ _ => rfl⟩
theorem SetC.kept {w w' : World} {b n : Nat} {S : Int → Int → Bool} {row : Option Nat} (h : SetC w b n S) (hg : w.grownBy w' row) (hne : some b ≠ row) : SetC w' b n S := by
  obtain ⟨D, h1, h2⟩ := h
  exact ⟨D, h1.kept hg hne, h2⟩
theorem SetC.lt {w : World} {b n : Nat} {S : Int → Int → Bool} (h : SetC w b n S) : b < w.heap.size := by
  obtain ⟨D, h1, -⟩ := h
  exact h1.lt
theorem SetC.ext {w : World} {b n : Nat} {S S' : Int → Int → Bool} (h : SetC w b n S) (he : ∀ x y, S x y = S' x y) : SetC w b n S' := by
  have : S = S' := funext fun x => funext fun y => he x y
  rwa [← this]
theorem SetC.below {w w' : World} {b n : Nat} {S : Int → Int → Bool} (h : SetC w b n S) (hb : Below w.heap.size w w') : SetC w' b n S := by
  obtain ⟨D, ⟨es, clock, hh, F, hs, hD⟩, h2⟩ := h
  have hlt := (Array.getElem?_eq_some_iff.1 hh).1
  exact ⟨D, ⟨es, clock, (hb.block b hlt).trans hh, F, hs, hD⟩, h2⟩
theorem SetC.alloc {w : World} {b n : Nat} {S : Int → Int → Bool} (h : SetC w b n S) (o : Obj) : SetC (w.alloc o) b n S := h.below ((Below.refl _ _).alloc (Nat.le_refl _) _)
theorem SetC.look {w : World} {b n : Nat} {S : Int → Int → Bool} (h : SetC w b n S) {t : TypeId} (ht : Try.prog.underlying t = some (.map 39 4)) {x y : Int} (hx : isI64 x) (hy : isI64 y) :
    (Instr.lookup t (.map (some b)) (.agg #[.int .i64 x, .int .i64 y]) false).run Try.prog w = .ok (.bool (S x y)) w := by
  obtain ⟨D, h1, h2⟩ := h
  obtain ⟨v, ps, hrun, hv⟩ := h1.lookup lawC ht (zeroBool w) (plainElem_bool Try.underlying4 false) (keyOfC hx hy)
  rw [h2 x y hx hy] at hv
  obtain rfl := plainElem_bool_inv Try.underlying4 hv
  exact hrun
theorem wpList_lookup_setC (w : World) {ops : Array Oper} {rest : List Oper} {o : Oper} {a : Act} {Q : Exit → Act → World → Prop}
    (hg : o.guard = none) (m x : Operand) (t : TypeId) (hop : o.op = Op.lookup t m x false) (ht : Try.prog.underlying t = some (.map 39 4)) (b n : Nat) (S : Int → Int → Bool)
    (hm : a.eval m = .map (some b)) (hs : SetC w b n S) (cx cy : Int) (hx : a.eval x = .agg #[.int .i64 cx, .int .i64 cy]) (wx : isI64 cx) (wy : isI64 cy)
    (hK : wpList Try.prog ops Q rest (a.put o.dst (.bool (S cx cy))) w) :
    wpList Try.prog ops Q (o :: rest) a w := by
  refine wpList_plain hg fun K' hK' => ?_
  have hrun := hs.look ht wx wy
  unfold Oper.wp
  simp [execOp, hop, hm, hx, hrun, Result.andThen]
  exact hK' _ _ hK
theorem wpList_update_setC (w : World) {ops : Array Oper} {rest : List Oper} {o : Oper} {a : Act} {Q : Exit → Act → World → Prop}
    (hg : o.guard = none) (m x v : Operand) (t : TypeId) (hop : o.op = Op.mapUpdate t m x v) (ht : Try.prog.underlying t = some (.map 39 4)) (b n : Nat) (S : Int → Int → Bool)
    (hm : a.eval m = .map (some b)) (hs : SetC w b n S) (hn : n < maxLen) (cx cy : Int) (u : Bool) (hx : a.eval x = .agg #[.int .i64 cx, .int .i64 cy]) (hv : a.eval v = .bool u) (wx : isI64 cx) (wy : isI64 cy)
    (hK : ∀ w', SetC w' b (n + 1) (fun p q => if p = cx ∧ q = cy then u else S p q) → w.grownBy w' (some b) → wpList Try.prog ops Q rest (a.put o.dst undef) w') :
    wpList Try.prog ops Q (o :: rest) a w := by
  obtain ⟨D, h1, h2⟩ := hs
  refine wpList_mapUpdate_own w hg m x v t hop 39 4 lawC ht _ b n D hm h1 hn _ _ (cellK cx cy) hx hv (keyOfC wx wy) _ [] (plainElem_bool Try.underlying4 u) fun w' hw' hg' => hK w' ⟨_, hw', fun p q hp hq => ?_⟩ hg'
  obtain ⟨es, clock, hh, F, hss, hD⟩ := h1
  have hM : Maps.IsMap D := ⟨_, hD⟩
  dsimp only
  by_cases e : p = cx ∧ q = cy
  · rw [if_pos e, e.1, e.2]
    exact Maps.atKey_put_same hM (lawC.key (keyOfC wx wy)) _ _
  · rw [if_neg e, Maps.atKey_put_other (fun h => e (cellK_inj hp hq wx wy h)) _ _]
    exact h2 p q hp hq
end Go.Proofs.Ytnbdnnbeiohmgaa
