/- Sets of cells: a map[Cell]bool that the call makes. -/
import Derived.Maps.OwnOps
import Derived.Maps.Views
import Derived.DeepKeys4
import Derived.MapViews
import Derived.WalkKit
import Derived.Maps.OwnIn
import Derived.Maps.RangeWalk
import Derived.Maps.OwnSet
import Derived.Sort.BigQuietIn
import Derived.RangeFuncNested
import Derived.RangeFuncBound
import Derived.RangeFuncCalls
import Derived.RangeFuncLeaves
import Derived.Test.YtnbdnnbeiohmgaaProg
namespace Go.Proofs.Ytnbdnnbeiohmgaa
open Go.RowKit Go.Maps

theorem laidOutC : laidOutB Try.prog = true := by kernel_rfl
theorem rowC39 : (39 : TypeId) < Try.prog.types.size := of_decide_eq_true (by kernel_rfl)
theorem wideC : (match Try.prog.underlying 39 with | some (.array _ _) | some (.struct _) => true | _ => false) = true := by rw [Try.underlying39]
set_option maxRecDepth 100000 in
theorem lawC : Keyed Try.prog 39 := Keyed.of_law (deep_law_laid laidOutC (m := 2) (by omega) rowC39 (by kernel_rfl) wideC)
theorem keyTypeC : Try.prog.keyType 39 = true := by kernel_rfl
theorem cellsOfC : Try.prog.cellsOf 39 = 2 := by kernel_rfl
theorem cellsOfI : Try.prog.cellsOf 3 = 1 := by kernel_rfl
theorem sizeC : ∃ n, Try.prog.types.size + 1 = n + 1 + 1 := ⟨Try.prog.types.size - 1, by have h : 1 ≤ Try.prog.types.size := Nat.lt_of_le_of_lt (Nat.zero_le _) rowC39; omega⟩
def isI64 (x : Int) : Prop := -9223372036854775808 ≤ x ∧ x ≤ 9223372036854775807
theorem wf_of {x : Int} (h : isI64 x) : (Lit.int .i64 x).wf = true := by
  unfold isI64 at h
  exact WalkArith.wf_i64 (by omega)
/-- what a cell reads as, as a key -/
def cellK (x y : Int) : Lit := .string (keyBytes [.int .i64 x, .int .i64 y])
theorem keyOfC {x y : Int} (hx : isI64 x) (hy : isI64 y) : keyOf Try.prog 39 (.agg #[.int .i64 x, .int .i64 y]) = some (cellK x y) := by
  obtain ⟨n, hn⟩ := sizeC
  have hf : (Value.agg #[.int .i64 x, .int .i64 y]).formed Try.prog 39 = true := by simp [Value.formed, Try.underlying39, cellsOfC]
  unfold keyOf
  rw [Try.underlying39]
  simp only [keyTypeC, hf, hn, Bool.and_self, if_true]
  simp [Program.keyLits, Try.underlying39, Try.underlying3, cellsOfC, cellsOfI, Value.cells, wf_of hx, wf_of hy, cellK]
theorem cellK_inj {x y x' y' : Int} (hx : isI64 x) (hy : isI64 y) (hx' : isI64 x') (hy' : isI64 y') (h : cellK x y = cellK x' y') : x = x' ∧ y = y' := by
  have h1 := keyOfC hx hy
  rw [h] at h1
  have h2 := lawC.inj h1 (keyOfC hx' hy')
  simp only [Value.agg.injEq, Array.mk.injEq, List.cons.injEq, Value.int.injEq, and_true, true_and] at h2
  exact h2
theorem plainElem_bool_inv {P : Program} {e : TypeId} (he : P.underlying e = some .bool) {v : Value} {u : Bool} {ps : List MemPlace} (h : plainElem (H := Unit) P e v = some (.lit (.bool u), ps)) : v = .bool u := by
  unfold plainElem at h
  rw [he] at h
  cases v <;> simp_all
theorem zeroBool (w : World) : (zeroValue 4).run Try.prog w = .ok (.bool false) w := by kernel_rfl

/-- block b is a set of cells, kept as a map to bools: whether a cell is in, false where there is none -/
def SetC (w : World) (b n : Nat) (S : Int → Int → Bool) : Prop :=
  ∃ D : DataW Unit, w.ownsMap Try.prog 39 (plainElem Try.prog 4) b n D ∧ ∀ x y, isI64 x → isI64 y → D.atKey (cellK x y) (.lit (.bool false)) = .lit (.bool (S x y))
theorem SetC.made (w : World) : SetC (w.alloc (.map #[] 0)) w.heap.size 0 fun _ _ => false := ⟨.map [], World.ownsMap_made _ _ _ _, fun _ _ _ _ => rfl⟩
theorem SetC.kept {w w' : World} {b n : Nat} {S : Int → Int → Bool} {row : Option Nat} (h : SetC w b n S) (hg : w.grownBy w' row) (hne : some b ≠ row) : SetC w' b n S := by
  obtain ⟨D, h1, h2⟩ := h
  exact ⟨D, h1.kept hg hne, h2⟩
theorem SetC.lt {w : World} {b n : Nat} {S : Int → Int → Bool} (h : SetC w b n S) : b < w.heap.size := by
  obtain ⟨D, h1, -⟩ := h
  exact h1.lt
theorem SetC.ext {w : World} {b n : Nat} {S S' : Int → Int → Bool} (h : SetC w b n S) (he : ∀ x y, S x y = S' x y) : SetC w b n S' := by
  have : S = S' := funext fun x => funext fun y => he x y
  rwa [← this]
theorem SetC.below {w w' : World} {b n : Nat} {S : Int → Int → Bool} (h : SetC w b n S) (hb : Below w.heap.size w w') : SetC w' b n S := by
  obtain ⟨D, ⟨es, clock, hh, F, hs, hD⟩, h2⟩ := h
  have hlt := (Array.getElem?_eq_some_iff.1 hh).1
  exact ⟨D, ⟨es, clock, (hb.block b hlt).trans hh, F, hs, hD⟩, h2⟩
theorem SetC.alloc {w : World} {b n : Nat} {S : Int → Int → Bool} (h : SetC w b n S) (o : Obj) : SetC (w.alloc o) b n S := h.below ((Below.refl _ _).alloc (Nat.le_refl _) _)
theorem SetC.look {w : World} {b n : Nat} {S : Int → Int → Bool} (h : SetC w b n S) {t : TypeId} (ht : Try.prog.underlying t = some (.map 39 4)) {x y : Int} (hx : isI64 x) (hy : isI64 y) :
    (Instr.lookup t (.map (some b)) (.agg #[.int .i64 x, .int .i64 y]) false).run Try.prog w = .ok (.bool (S x y)) w := by
  obtain ⟨D, h1, h2⟩ := h
  obtain ⟨v, ps, hrun, hv⟩ := h1.lookup lawC ht (zeroBool w) (plainElem_bool Try.underlying4 false) (keyOfC hx hy)
  rw [h2 x y hx hy] at hv
  obtain rfl := plainElem_bool_inv Try.underlying4 hv
  exact hrun
theorem wpList_lookup_setC (w : World) {ops : Array Oper} {rest : List Oper} {o : Oper} {a : Act} {Q : Exit → Act → World → Prop}
    (hg : o.guard = none) (m x : Operand) (t : TypeId) (hop : o.op = Op.lookup t m x false) (ht : Try.prog.underlying t = some (.map 39 4)) (b n : Nat) (S : Int → Int → Bool)
    (hm : a.eval m = .map (some b)) (hs : SetC w b n S) (cx cy : Int) (hx : a.eval x = .agg #[.int .i64 cx, .int .i64 cy]) (wx : isI64 cx) (wy : isI64 cy)
    (hK : wpList Try.prog ops Q rest (a.put o.dst (.bool (S cx cy))) w) :
    wpList Try.prog ops Q (o :: rest) a w := by
  refine wpList_plain hg fun K' hK' => ?_
  have hrun := hs.look ht wx wy
  unfold Oper.wp
  simp [execOp, hop, hm, hx, hrun, Result.andThen]
  exact hK' _ _ hK
theorem wpList_update_setC (w : World) {ops : Array Oper} {rest : List Oper} {o : Oper} {a : Act} {Q : Exit → Act → World → Prop}
    (hg : o.guard = none) (m x v : Operand) (t : TypeId) (hop : o.op = Op.mapUpdate t m x v) (ht : Try.prog.underlying t = some (.map 39 4)) (b n : Nat) (S : Int → Int → Bool)
    (hm : a.eval m = .map (some b)) (hs : SetC w b n S) (hn : n < maxLen) (cx cy : Int) (u : Bool) (hx : a.eval x = .agg #[.int .i64 cx, .int .i64 cy]) (hv : a.eval v = .bool u) (wx : isI64 cx) (wy : isI64 cy)
    (hK : ∀ w', SetC w' b (n + 1) (fun p q => if p = cx ∧ q = cy then u else S p q) → w.grownBy w' (some b) → wpList Try.prog ops Q rest (a.put o.dst undef) w') :
    wpList Try.prog ops Q (o :: rest) a w := by
  obtain ⟨D, h1, h2⟩ := hs
  refine wpList_mapUpdate_own w hg m x v t hop 39 4 lawC ht _ b n D hm h1 hn _ _ (cellK cx cy) hx hv (keyOfC wx wy) _ [] (plainElem_bool Try.underlying4 u) fun w' hw' hg' => hK w' ⟨_, hw', fun p q hp hq => ?_⟩ hg'
  obtain ⟨es, clock, hh, F, hss, hD⟩ := h1
  have hM : Maps.IsMap D := ⟨_, hD⟩
  dsimp only
  by_cases e : p = cx ∧ q = cy
  · rw [if_pos e, e.1, e.2]
    exact Maps.atKey_put_same hM (lawC.key (keyOfC wx wy)) _ _
  · rw [if_neg e, Maps.atKey_put_other (fun h => e (cellK_inj hp hq wx wy h)) _ _]
    exact h2 p q hp hq
end Go.Proofs.Ytnbdnnbeiohmgaa
/- Sets of cells with their keys (a map that is ranged over); a drawn region in a loop over a function; such a loop whose variable is boxed. -/
namespace Go.Proofs.Ytnbdnnbeiohmgaa
open Go.RowKit Go.Maps

/-! ### a set with its keys -/
def SetD (D : DataW Unit) (S : Int → Int → Bool) : Prop := ∀ x y, isI64 x → isI64 y → D.atKey (cellK x y) (.lit (.bool false)) = .lit (.bool (S x y)) ∧ has D (cellK x y) = S x y
/-- block b is a set of cells that holds 'true' alone -/
def SetT (w : World) (b n : Nat) (S : Int → Int → Bool) : Prop := ∃ D : DataW Unit, w.ownsMap Try.prog 39 (plainElem Try.prog 4) b n D ∧ SetD D S
theorem SetT.setC {w : World} {b n : Nat} {S : Int → Int → Bool} (h : SetT w b n S) : SetC w b n S := by
  obtain ⟨D, h1, h2⟩ := h
  exact ⟨D, h1, fun x y hx hy => (h2 x y hx hy).1⟩
theorem SetT.made (w : World) : SetT (w.alloc (.map #[] 0)) w.heap.size 0 fun _ _ => false := ⟨.map [], World.ownsMap_made _ _ _ _, fun _ _ _ _ => ⟨rfl, rfl⟩⟩
theorem SetT.kept {w w' : World} {b n : Nat} {S : Int → Int → Bool} {row : Option Nat} (h : SetT w b n S) (hg : w.grownBy w' row) (hne : some b ≠ row) : SetT w' b n S := by
  obtain ⟨D, h1, h2⟩ := h
  exact ⟨D, h1.kept hg hne, h2⟩
theorem SetT.lt {w : World} {b n : Nat} {S : Int → Int → Bool} (h : SetT w b n S) : b < w.heap.size := h.setC.lt
theorem SetT.ext {w : World} {b n : Nat} {S S' : Int → Int → Bool} (h : SetT w b n S) (he : ∀ x y, S x y = S' x y) : SetT w b n S' := by
  have : S = S' := funext fun x => funext fun y => he x y
  rwa [← this]
theorem SetT.below {w w' : World} {b n m : Nat} {S : Int → Int → Bool} (h : SetT w b n S) (hb : Below m w w') (hm : b < m) : SetT w' b n S := by
  obtain ⟨D, ⟨es, clock, hh, F, hs, hD⟩, h2⟩ := h
  exact ⟨D, ⟨es, clock, (hb.block b hm).trans hh, F, hs, hD⟩, h2⟩
theorem SetT.more {w : World} {b n n' : Nat} {S : Int → Int → Bool} (h : SetT w b n S) (hn : n ≤ n') : SetT w b n' S := by
  obtain ⟨D, h1, h2⟩ := h
  exact ⟨D, h1.mono hn, h2⟩

section
variable {F : Fence} {nF : Nat}
theorem wpListIn_lookup_setT (w : World) {ops : Array Oper} {rest : List Oper} {o : Oper} {a : Act} {Q : Exit → Act → World → Prop}
    (hg : o.guard = none) (m x : Operand) (t : TypeId) (hop : o.op = Op.lookup t m x false) (ht : Try.prog.underlying t = some (.map 39 4)) (b n : Nat) (S : Int → Int → Bool)
    (hm : a.eval m = .map (some b)) (hs : SetT w b n S) (cx cy : Int) (u : Bool) (hu : S cx cy = u) (hx : a.eval x = .agg #[.int .i64 cx, .int .i64 cy]) (wx : isI64 cx) (wy : isI64 cy)
    (hK : wpListIn F nF Try.prog ops Q rest (a.put o.dst (.bool u)) w) :
    wpListIn F nF Try.prog ops Q (o :: rest) a w := by
  refine wpListIn_plain hg fun K' hK' => ?_
  have hrun := hs.setC.look ht wx wy
  rw [hu] at hrun
  unfold Oper.wpIn
  refine ⟨by simp [Oper.about, hop], ?_⟩
  rw [Oper.semAt_plain F _ _ (by rw [hop]; intro c hc'; cases hc')]
  simp [execOp, hop, hm, hx, hrun, Result.andThen]
  exact hK' _ _ hK
theorem SetD.put {D : DataW Unit} {S : Int → Int → Bool} (hM : IsMap D) (h : SetD D S) {cx cy : Int} (wx : isI64 cx) (wy : isI64 cy) : SetD (D.put (cellK cx cy) (.lit (.bool true))) (fun p q => if p = cx ∧ q = cy then true else S p q) := by
  intro p q hp hq
  dsimp only
  by_cases e : p = cx ∧ q = cy
  · rw [if_pos e, e.1, e.2]
    exact ⟨atKey_put_same hM (lawC.key (keyOfC wx wy)) _ _, has_put_same hM (lawC.key (keyOfC wx wy)) _⟩
  · rw [if_neg e, atKey_put_other (fun h => e (cellK_inj hp hq wx wy h)) _ _, has_put_other (fun h => e (cellK_inj hp hq wx wy h)) _]
    exact h p q hp hq
theorem wpListIn_update_setT (w : World) {ops : Array Oper} {rest : List Oper} {o : Oper} {a : Act} {Q : Exit → Act → World → Prop}
    (hg : o.guard = none) (m x v : Operand) (t : TypeId) (hop : o.op = Op.mapUpdate t m x v) (ht : Try.prog.underlying t = some (.map 39 4)) (b n : Nat) (S : Int → Int → Bool)
    (hm : a.eval m = .map (some b)) (hs : SetT w b n S) (hn : n < maxLen) (cx cy : Int) (hx : a.eval x = .agg #[.int .i64 cx, .int .i64 cy]) (hv : a.eval v = .bool true) (wx : isI64 cx) (wy : isI64 cy)
    (hK : ∀ w', SetT w' b (n + 1) (fun p q => if p = cx ∧ q = cy then true else S p q) → w.grownBy w' (some b) → wpListIn F nF Try.prog ops Q rest (a.put o.dst undef) w') :
    wpListIn F nF Try.prog ops Q (o :: rest) a w := by
  obtain ⟨D, h1, h2⟩ := hs
  refine wpListIn_mapUpdate_own w hg m x v t hop 39 4 lawC ht _ b n D hm h1 hn _ _ (cellK cx cy) hx hv (keyOfC wx wy) _ [] (plainElem_bool Try.underlying4 true) fun w' hw' hg' => hK w' ⟨_, hw', h2.put ?_ wx wy⟩ hg'
  exact h1.isMap

/-! ### a drawn region in a round -/
def noDefer (l : List Oper) : Bool := l.all fun o => match o.op with
  | .defer _ => false
  | _ => true
theorem noDefer_at {l : List Oper} (h : noDefer l = true) {i : Nat} {o : Oper} (hi : l.toArray[i]? = some o) : ∀ c, o.op ≠ .defer c := by
  intro c e
  have := List.all_eq_true.1 h o (List.mem_of_getElem? (by simpa using hi))
  rw [e] at this
  simp at this
theorem wpAnyIn_round {P : Program} {ops : Array Oper} {Q : Exit → Act → World → Prop} {md : Region.Mode} (lp : Nat) (hd : ∀ (i : Nat) (o : Oper), ops[i]? = some o → ∀ c, o.op ≠ .defer c) : ∀ (fuel : Nat) (listed : Array Bool) (a : Act) (w : World),
    wpAnyIn F nF P md ops Q fuel listed a w → wpAnyIn (F.inRound lp) nF P md ops Q fuel listed a w
  | 0, _, _, _, h => h
  | fuel + 1, listed, a, w, h => by
    refine ⟨h.1, fun i hi => ?_⟩
    have h2 := wpOpIn_mono (fun a' w' => wpAnyIn_round lp hd fuel _ a' w') (h.2 i hi)
    unfold wpOpIn at h2 ⊢
    cases ho : ops[i]? with
    | none => simpa only [ho] using h2
    | some o =>
      simp only [ho] at h2 ⊢
      split
      · rename_i hw
        simp only [hw, if_true] at h2
        unfold Oper.wpIn at h2 ⊢
        rw [Oper.semAt_eq _ _ _ (hd i o ho)] at h2 ⊢
        refine ⟨h2.1, ?_⟩
        have h3 := h2.2
        generalize (execOp a.eval o).run P w = r at *
        cases r with
        | ok x w' => cases x <;> exact h3
        | halt x w' => cases x <;> exact h3
      · rename_i hw
        simp only [hw] at h2
        exact h2
theorem wpIn_region_quiet_round {P : Program} {id : Nat} {Q : Exit → Act → World → Prop} {a : Act} {w : World} {l : List Oper} (lp : Nat) (hro : F.round = none) (hm : P.follows .mixedOrders = true) (hB : Region.lexB .any l.toArray = true) (hd : noDefer l = true)
    (h : wpQuietIn F nF P l.toArray (fun w' => ∃ n, w' = w.drewN n) (fun a' => ∀ w', (∃ n, w' = w.drewN n) → Q .normal a' w') l a) : (Code.region id l.toArray true).wpIn (F.inRound lp) nF P Q a w := by
  simp only [Region.lexB, Bool.and_eq_true] at hB
  refine wpIn_region_any hm (wpAnyIn_round lp (fun i o ho => noDefer_at hd ho) _ _ _ _ (wpAnyIn_of_quiet (C := fun w' => ∃ n, w' = w.drewN n) (Q := fun a' => ∀ w', (∃ n, w' = w.drewN n) → Q .normal a' w') hro (fun _ w' hw' h => h w' hw') _ _ _ _ ⟨1, rfl⟩ ?_))
  have := wpAnyQIn_lex (F := F) (n := nF) (C := fun w' => ∃ n, w' = w.drewN n) (md := .any) hB.1 l 0 (Array.replicate l.toArray.size false) a (by simp) (by simpa using hB.2) (by simpa using h)
  simpa using this

/-! ### a loop over a function, its variable boxed -/
theorem wpIn_rangeFunc_box {n : Nat} {P : Program} {α : Type} {g : Operand} {p d : Tmp} {assign body : Code} {Q : Exit → Act → World → Prop} {a : Act} {w : World}
    (hro : F.round = none) (h1 : 1 ≤ n) {gf : Nat} {lb : Array Value} (hg : a.eval g = .func (.func gf) #[] lb) (hFg : F.fn gf) (eg : ∀ args w, (callFunc gf args).run P w = .ok (.enter gf args) w)
    {enc : α → Value} {Kp : World → World → Prop} {S Sp : List α → Prop} {N : Nat} {w0 : World} (hseq : SeqStopsK F (n - 1) P gf lb (fun x => #[enc x]) Kp S Sp N w0)
    (hKt : ∀ {A B C : World}, Kp A B → Kp B C → Kp A C) (hKb : ∀ (W : World) (l : Nat) (o o' : Obj), w.heap.size ≤ l → W.heap[l]? = some o → o.isCells = false → o.isWalk = false → Kp W (W.putObj l o')) (hb0 : Below w0.heap.size w0 w)
    (I : List α → World → Prop) (Ix : Code → List α → World → Prop) (hI : OwnFrom w.heap.size I) (hIx : ∀ c, OwnFrom w.heap.size (Ix c)) (h0 : I [] w) (cs : α → Array Value) (t : TypeId)
    (hassign : ∀ (l : Nat) (pre : List α) (x : α) (W : World) (K : Act → World → Prop), I pre W → (∀ W', KeepsFrom w.heap.size W W' → Kp W W' → I pre W' → W' = W.alloc (.cells (cs x) t) → K { tmps := (a.tmps.setIfInBounds p (enc x)).setIfInBounds d (.pointer (some ⟨W.heap.size, 0, none⟩)), defers := [] } W') →
      assign.wpIn (F.inRound l) (n - 1 - 1) P (Exit.then K (fun _ _ _ => False)) { tmps := a.tmps.setIfInBounds p (enc x), defers := [] } W)
    (hsz : ∀ pre W, I pre W → w.heap.size ≤ W.heap.size)
    (hbody : ∀ (l : Nat) (pre : List α) (x : α) (Bx : Nat) (W : World), w.heap.size ≤ l → (∃ r, W.heap[l]? = some (.loop r)) → I pre W → w.heap.size ≤ Bx → W.heap[Bx]? = some (.cells (cs x) t (0, 0)) → pre.length < N →
      body.wpIn (F.inRound l) (n - 1 - 1) P (ownPostG w.heap.size Kp I Ix (pre ++ [x]) W) { tmps := (a.tmps.setIfInBounds p (enc x)).setIfInBounds d (.pointer (some ⟨Bx, 0, none⟩)), defers := [] } W)
    (hdone : ∀ (D : Nat) (xs : List α) (W : World), w.heap.size ≤ D → S xs → I xs W → W.heap[D]? = some (.deferred (some [])) → Q .normal { a with defers := { target := .collected D, args := #[] } :: a.defers } W)
    (hstop : ∀ (D : Nat) (c : Code) (pre : List α) (W : World), w.heap.size ≤ D → Sp pre → Ix c pre W → W.heap[D]? = some (.deferred (some [])) → c.wpIn F n P Q { a with defers := { target := .collected D, args := #[] } :: a.defers } W) :
    (Code.rangeFunc g #[p] assign body).wpIn F n P Q a w := by
  refine wpIn_rangeFunc_ownH (encs := fun x => #[enc x]) hro h1 hg hFg eg hseq hKt hKb hb0 (fun _ => rfl) I Ix hI hIx h0
    (fun x a' W => ∃ Bx, w.heap.size ≤ Bx ∧ W.heap[Bx]? = some (.cells (cs x) t (0, 0)) ∧ a' = { tmps := (a.tmps.setIfInBounds p (enc x)).setIfInBounds d (.pointer (some ⟨Bx, 0, none⟩)), defers := [] })
    (fun x a' _ X Y row hs hg hr => ?_) ?_ ?_ hdone hstop
  · obtain ⟨Bx, k1, k2, k3⟩ := hs
    refine ⟨Bx, k1, (hg.block Bx (Array.getElem?_eq_some_iff.1 k2).1 (fun e => ?_)).trans k2, k3⟩
    obtain ⟨o, ho, hc⟩ := (hr Bx e.symm).2
    rw [k2] at ho
    cases ho
    cases hc
  · intro l pre x W K hi hK
    have := hassign l pre x W K hi (fun W' k1 k2 k3 k4 => hK _ W' k1 k2 k3 ⟨W.heap.size, hsz _ _ hi, by rw [k4]; exact World.alloc_heap_new W _, rfl⟩)
    simpa using this
  · rintro l pre x a' W hl hr hi ⟨Bx, k1, k2, rfl⟩ hlt
    exact hbody l pre x Bx W hl hr hi k1 k2 hlt
end

/-! ### the keys of a set, ranged over -/
theorem wf_inv {x : Int} (h : (Lit.int .i64 x).wf = true) : isI64 x := by
  simp only [Lit.wf, Bool.and_eq_true, decide_eq_true_eq] at h
  have h1 : (IntKind.i64).min = -9223372036854775808 := by decide +kernel
  have h2 : (IntKind.i64).max = 9223372036854775807 := by decide +kernel
  rw [h1, h2] at h
  exact h
theorem keyLits_int {P : Program} {t : TypeId} {q : IntKind} {d : Nat} {a : Value} {ls : List Lit} (ht : P.underlying t = some (.int q)) (h : P.keyLits (d + 1) t [a] = some ls) : ∃ x, a = .int q x ∧ (Lit.int q x).wf = true := by
  unfold Program.keyLits at h
  rw [ht] at h
  cases a <;> simp at h
  obtain ⟨⟨rfl, h⟩, -⟩ := h
  exact ⟨_, rfl, h⟩
theorem keyOf_two {P : Program} {t e : TypeId} {f1 f2 : Field} (ht : P.underlying t = some (.struct #[f1, f2])) (hc : P.cellsOf t = 2) (o1 : f1.offset = 0) (o2 : f2.offset = 1) (e1 : f1.type = e) (e2 : f2.type = e) (ce : P.cellsOf e = 1) (he : P.underlying e = some (.int .i64)) (hn : ∃ n, P.types.size + 1 = n + 1 + 1)
    {key : Value} {kl : Lit} (h : keyOf P t key = some kl) : ∃ c : Int × Int, key = .agg #[.int .i64 c.1, .int .i64 c.2] ∧ (Lit.int .i64 c.1).wf = true ∧ (Lit.int .i64 c.2).wf = true := by
  obtain ⟨n, hn⟩ := hn
  simp only [keyOf, ht] at h
  split at h
  · rename_i hk
    rw [Bool.and_eq_true] at hk
    have hf := hk.2
    cases key <;> simp [Value.formed, ht, hc] at hf
    rename_i cs
    obtain ⟨a, b, rfl⟩ : ∃ a b, cs = #[a, b] := by
      obtain ⟨l⟩ := cs
      match l, hf with
      | [a, b], _ => exact ⟨a, b, rfl⟩
    rw [Option.map_eq_some_iff] at h
    obtain ⟨ls, h, -⟩ := h
    rw [hn] at h
    unfold Program.keyLits at h
    rw [ht] at h
    simp [hc, Value.cells, o1, o2, e1, e2, ce] at h
    cases h1 : P.keyLits (n + 1) e [a] with
    | none => simp [h1] at h
    | some l1 =>
      cases h2 : P.keyLits (n + 1) e [b] with
      | none => simp [h1, h2] at h
      | some l2 =>
        obtain ⟨x, rfl, hx⟩ := keyLits_int he h1
        obtain ⟨y, rfl, hy⟩ := keyLits_int he h2
        exact ⟨(x, y), rfl, hx, hy⟩
  · cases h
theorem keyOfC_inv {key : Value} {kl : Lit} (h : keyOf Try.prog 39 key = some kl) : ∃ c : Int × Int, key = .agg #[.int .i64 c.1, .int .i64 c.2] := by
  obtain ⟨c, h1, -⟩ := keyOf_two Try.underlying39 cellsOfC rfl rfl rfl rfl cellsOfI Try.underlying3 sizeC h
  exact ⟨c, h1⟩
theorem keyOfC_in {x y : Int} {kl : Lit} (h : keyOf Try.prog 39 (.agg #[.int .i64 x, .int .i64 y]) = some kl) : isI64 x ∧ isI64 y ∧ kl = cellK x y := by
  obtain ⟨⟨p, q⟩, h1, h2, h3⟩ := keyOf_two Try.underlying39 cellsOfC rfl rfl rfl rfl cellsOfI Try.underlying3 sizeC h
  simp only [Value.agg.injEq, Array.mk.injEq, List.cons.injEq, Value.int.injEq, and_true, true_and] at h1
  obtain ⟨rfl, rfl⟩ := h1
  have hx := wf_inv h2
  have hy := wf_inv h3
  have := keyOfC hx hy
  rw [h] at this
  cases this
  exact ⟨hx, hy, rfl⟩
theorem plainElem_bool_shape {P : Program} {e : TypeId} (he : P.underlying e = some .bool) {v : Value} {y : DataW Unit × List MemPlace} (h : plainElem (H := Unit) P e v = some y) : ∃ u, v = .bool u := by
  unfold plainElem at h
  rw [he] at h
  cases v <;> simp_all
/-- the step of a range over a set of cells -/
theorem wpList_next_cells (w : World) {ops : Array Oper} {rest : List Oper} {o : Oper} {a : Act} {Q : Exit → Act → World → Prop} (hg : o.guard = none) (it : Operand) (hop : o.op = Op.next it false) (b r n : Nat) (D : DataW Unit) (left : Lit → Bool) (cnt : Nat)
    (hit : a.eval it = .pointer (some ⟨r, 0, none⟩)) (h : w.ranges Try.prog 39 (plainElem Try.prog 4) b r n D left cnt)
    (hDone : cnt = 0 → (∀ kl, left kl = false) → wpList Try.prog ops Q rest (a.put o.dst (.tuple #[.bool false])) w)
    (hMore : ∀ (x y : Int) (u : Value) (w' : World) (cnt' : Nat), isI64 x → isI64 y → left (cellK x y) = true → w'.ranges Try.prog 39 (plainElem Try.prog 4) b r n D (fun z => left z && !z.sameKey (cellK x y)) cnt' → cnt' < cnt →
      w.grownBy w' (some r) → w'.heap.size = w.heap.size → (Instr.entry (.pointer (some ⟨r, 0, none⟩))).run Try.prog w' = .ok (.tuple #[.agg #[.int .i64 x, .int .i64 y], u]) w' → wpList Try.prog ops Q rest (a.put o.dst (.tuple #[.bool true, .agg #[.int .i64 x, .int .i64 y], u])) w') :
    wpList Try.prog ops Q (o :: rest) a w :=
  wpList_next_ranges w hg it hop 39 lawC (plainElem Try.prog 4) (fun c : Int × Int => .agg #[.int .i64 c.1, .int .i64 c.2]) (fun u : Bool => .bool u) (fun key kl hkey => keyOfC_inv hkey) (fun v y hv => plainElem_bool_shape Try.underlying4 hv)
    b r n D left cnt hit h hDone (fun x u kl y w' cnt' hkey hlk hv hat hrg hlt hgr hsz hen => by
      obtain ⟨hx, hy, rfl⟩ := keyOfC_in hkey
      exact hMore x.1 x.2 (.bool u) w' cnt' hx hy hlk hrg hlt hgr hsz hen)
/-- what is still to come, in a range over a set: those of the set that have not come -/
def LeftT (D : DataW Unit) (L : List (Int × Int)) (left : Lit → Bool) : Prop := ∀ x y, isI64 x → isI64 y → left (cellK x y) = (has D (cellK x y) && !decide ((x, y) ∈ L))
theorem LeftT.start (D : DataW Unit) : LeftT D [] (has D) := fun x y _ _ => by simp
theorem LeftT.step {D : DataW Unit} {L : List (Int × Int)} {left : Lit → Bool} {x y : Int} (h : LeftT D L left) (hx : isI64 x) (hy : isI64 y) : LeftT D (L ++ [(x, y)]) (fun z => left z && !z.sameKey (cellK x y)) := by
  intro p q hp hq
  dsimp only
  rw [h p q hp hq]
  by_cases e : p = x ∧ q = y
  · obtain ⟨rfl, rfl⟩ := e
    have : (cellK p q).sameKey (cellK p q) = true := WideAt.sameKey_self (lawC.key (keyOfC hx hy))
    rw [this]
    simp
  · have h1 : (cellK p q).sameKey (cellK x y) = false := sameKey_ne (fun h => e (cellK_inj hp hq hx hy h))
    rw [h1]
    have h2 : ((p, q) ∈ L ++ [(x, y)]) ↔ (p, q) ∈ L := by
      simp only [List.mem_append, List.mem_singleton, Prod.mk.injEq]
      exact ⟨fun h => h.elim id (fun h => absurd h e), .inl⟩
    simp [h2]
theorem LeftT.done {D : DataW Unit} {S : Int → Int → Bool} {L : List (Int × Int)} {left : Lit → Bool} (h : LeftT D L left) (hS : SetD D S) (h0 : ∀ kl, left kl = false) {x y : Int} (hx : isI64 x) (hy : isI64 y) (hs : S x y = true) : (x, y) ∈ L := by
  have h1 := h x y hx hy
  rw [h0, (hS x y hx hy).2, hs] at h1
  simpa using h1
end Go.Proofs.Ytnbdnnbeiohmgaa
