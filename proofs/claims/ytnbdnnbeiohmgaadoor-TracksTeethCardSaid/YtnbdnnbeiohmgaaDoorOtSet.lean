/- Sets of spots. Printed by wip/mk_otset.py. -/
import Derived.Test.YtnbdnnbeiohmgaaDoorMapA
namespace Go.Proofs.YtnbdnnbeiohmgaaDoor
open Go.RowKit Go.Maps

theorem rowS39 : (23 : TypeId) < Tryd.prog.types.size := of_decide_eq_true (by kernel_rfl)
theorem wideS : (match Tryd.prog.underlying 23 with | some (.array _ _) | some (.struct _) => true | _ => false) = true := by rw [Tryd.underlying23]
set_option maxRecDepth 100000 in
theorem lawS : Keyed Tryd.prog 23 := Keyed.of_law (deep_law_laid laidOutC (m := 2) (by omega) rowS39 (by kernel_rfl) wideS)
theorem keyTypeS : Tryd.prog.keyType 23 = true := by kernel_rfl
theorem cellsOfS : Tryd.prog.cellsOf 23 = 2 := by kernel_rfl
theorem cellsOfJ : Tryd.prog.cellsOf 3 = 1 := by kernel_rfl
theorem sizeS : ∃ n, Tryd.prog.types.size + 1 = n + 1 + 1 := ⟨Tryd.prog.types.size - 1, by have h : 1 ≤ Tryd.prog.types.size := Nat.lt_of_le_of_lt (Nat.zero_le _) rowS39; omega⟩
theorem keyOfS {x y : Int} (hx : isI64 x) (hy : isI64 y) : keyOf Tryd.prog 23 (.agg #[.int .i64 x, .int .i64 y]) = some (cellK x y) := by
  obtain ⟨n, hn⟩ := sizeS
  have hf : (Value.agg #[.int .i64 x, .int .i64 y]).formed Tryd.prog 23 = true := by simp [Value.formed, Tryd.underlying23, cellsOfS]
  unfold keyOf
  rw [Tryd.underlying23]
  simp only [keyTypeS, hf, hn, Bool.and_self, if_true]
  simp [Program.keyLits, Tryd.underlying23, Tryd.underlying3, cellsOfS, cellsOfJ, Value.cells, wf_of hx, wf_of hy, cellK]
theorem cellK_injS {x y x' y' : Int} (hx : isI64 x) (hy : isI64 y) (hx' : isI64 x') (hy' : isI64 y') (h : cellK x y = cellK x' y') : x = x' ∧ y = y' := by
  have h1 := keyOfS hx hy
  rw [h] at h1
  have h2 := lawS.inj h1 (keyOfS hx' hy')
  simp only [Value.agg.injEq, Array.mk.injEq, List.cons.injEq, Value.int.injEq, and_true, true_and] at h2
  exact h2
/-- block b is a set of spots, kept as a map to bools: whether a cell is in, false where there is none -/
def SetS (w : World) (b n : Nat) (S : Int → Int → Bool) : Prop :=
  ∃ D : DataW Unit, w.ownsMap Tryd.prog 23 (plainElem Tryd.prog 4) b n D ∧ ∀ x y, isI64 x → isI64 y → D.atKey (cellK x y) (.lit (.bool false)) = .lit (.bool (S x y))
theorem SetS.made (w : World) : SetS (w.alloc (.map #[] 0)) w.heap.size 0 fun _ _ => false := ⟨.map [], World.ownsMap_made _ _ _ _, fun _ _ _ _ => rfl⟩
theorem SetS.kept {w w' : World} {b n : Nat} {S : Int → Int → Bool} {row : Option Nat} (h : SetS w b n S) (hg : w.grownBy w' row) (hne : some b ≠ row) : SetS w' b n S := by
  obtain ⟨D, h1, h2⟩ := h
  exact ⟨D, h1.kept hg hne, h2⟩
theorem SetS.lt {w : World} {b n : Nat} {S : Int → Int → Bool} (h : SetS w b n S) : b < w.heap.size := by
  obtain ⟨D, h1, -⟩ := h
  exact h1.lt
theorem SetS.ext {w : World} {b n : Nat} {S S' : Int → Int → Bool} (h : SetS w b n S) (he : ∀ x y, S x y = S' x y) : SetS w b n S' := by
  have : S = S' := funext fun x => funext fun y => he x y
  rwa [← this]
theorem SetS.below {w w' : World} {b n : Nat} {S : Int → Int → Bool} (h : SetS w b n S) (hb : Below w.heap.size w w') : SetS w' b n S := by
  obtain ⟨D, ⟨es, clock, hh, F, hs, hD⟩, h2⟩ := h
  have hlt := (Array.getElem?_eq_some_iff.1 hh).1
  exact ⟨D, ⟨es, clock, (hb.block b hlt).trans hh, F, hs, hD⟩, h2⟩
theorem SetS.alloc {w : World} {b n : Nat} {S : Int → Int → Bool} (h : SetS w b n S) (o : Obj) : SetS (w.alloc o) b n S := h.below ((Below.refl _ _).alloc (Nat.le_refl _) _)
theorem SetS.look {w : World} {b n : Nat} {S : Int → Int → Bool} (h : SetS w b n S) {t : TypeId} (ht : Tryd.prog.underlying t = some (.map 23 4)) {x y : Int} (hx : isI64 x) (hy : isI64 y) :
    (Instr.lookup t (.map (some b)) (.agg #[.int .i64 x, .int .i64 y]) false).run Tryd.prog w = .ok (.bool (S x y)) w := by
  obtain ⟨D, h1, h2⟩ := h
  obtain ⟨v, ps, hrun, hv⟩ := h1.lookup lawS ht (zeroBool w) (plainElem_bool Tryd.underlying4 false) (keyOfS hx hy)
  rw [h2 x y hx hy] at hv
  obtain rfl := plainElem_bool_inv Tryd.underlying4 hv
  exact hrun
theorem wpList_lookup_setS (w : World) {ops : Array Oper} {rest : List Oper} {o : Oper} {a : Act} {Q : Exit → Act → World → Prop}
    (hg : o.guard = none) (m x : Operand) (t : TypeId) (hop : o.op = Op.lookup t m x false) (ht : Tryd.prog.underlying t = some (.map 23 4)) (b n : Nat) (S : Int → Int → Bool)
    (hm : a.eval m = .map (some b)) (hs : SetS w b n S) (cx cy : Int) (hx : a.eval x = .agg #[.int .i64 cx, .int .i64 cy]) (wx : isI64 cx) (wy : isI64 cy)
    (hK : wpList Tryd.prog ops Q rest (a.put o.dst (.bool (S cx cy))) w) :
    wpList Tryd.prog ops Q (o :: rest) a w := by
  refine wpList_plain hg fun K' hK' => ?_
  have hrun := hs.look ht wx wy
  unfold Oper.wp
  simp [execOp, hop, hm, hx, hrun, Result.andThen]
  exact hK' _ _ hK
theorem wpList_update_setS (w : World) {ops : Array Oper} {rest : List Oper} {o : Oper} {a : Act} {Q : Exit → Act → World → Prop}
    (hg : o.guard = none) (m x v : Operand) (t : TypeId) (hop : o.op = Op.mapUpdate t m x v) (ht : Tryd.prog.underlying t = some (.map 23 4)) (b n : Nat) (S : Int → Int → Bool)
    (hm : a.eval m = .map (some b)) (hs : SetS w b n S) (hn : n < maxLen) (cx cy : Int) (u : Bool) (hx : a.eval x = .agg #[.int .i64 cx, .int .i64 cy]) (hv : a.eval v = .bool u) (wx : isI64 cx) (wy : isI64 cy)
    (hK : ∀ w', SetS w' b (n + 1) (fun p q => if p = cx ∧ q = cy then u else S p q) → w.grownBy w' (some b) → wpList Tryd.prog ops Q rest (a.put o.dst undef) w') :
    wpList Tryd.prog ops Q (o :: rest) a w := by
  obtain ⟨D, h1, h2⟩ := hs
  refine wpList_mapUpdate_own w hg m x v t hop 23 4 lawS ht _ b n D hm h1 hn _ _ (cellK cx cy) hx hv (keyOfS wx wy) _ [] (plainElem_bool Tryd.underlying4 u) fun w' hw' hg' => hK w' ⟨_, hw', fun p q hp hq => ?_⟩ hg'
  obtain ⟨es, clock, hh, F, hss, hD⟩ := h1
  have hM : Maps.IsMap D := ⟨_, hD⟩
  dsimp only
  by_cases e : p = cx ∧ q = cy
  · rw [if_pos e, e.1, e.2]
    exact Maps.atKey_put_same hM (lawS.key (keyOfS wx wy)) _ _
  · rw [if_neg e, Maps.atKey_put_other (fun h => e (cellK_injS hp hq wx wy h)) _ _]
    exact h2 p q hp hq
end Go.Proofs.YtnbdnnbeiohmgaaDoor
