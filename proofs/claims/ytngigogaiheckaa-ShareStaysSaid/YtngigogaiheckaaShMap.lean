/- Maps whose elements are taken as they are: any kind of key. -/
import Derived.Maps.OwnIn
import Derived.Test.YtngigogaiheckaaShLeaf
namespace Go.Proofs.Ytngigogaiheckaa
open Go.RowKit Go.Lib Go.Maps

/-- a kind of maps: types of key, element and map; a key's value and what it reads as; which keys there are; the zero element -/
structure MK (κ : Type) where
  k : TypeId
  e : TypeId
  t : TypeId
  kv : κ → Value
  key : κ → Lit
  ok : κ → Prop
  z : Value
structure MK.Law {κ : Type} (M : MK κ) : Prop where
  K : Keyed Try.prog M.k
  t : Try.prog.underlying M.t = some (.map M.k M.e)
  z : ∀ w, (zeroValue M.e).run Try.prog w = .ok M.z w
  key : ∀ x, M.ok x → keyOf Try.prog M.k (M.kv x) = some (M.key x)
  inj : ∀ x y, M.ok x → M.ok y → M.key x = M.key y → x = y

section
variable {κ : Type} {M : MK κ} {w w' : World} {m n : Nat} {f : κ → Option Value}
/-- block m is a map of n elements that gives f -/
def MapAt (M : MK κ) (w : World) (m n : Nat) (f : κ → Option Value) : Prop :=
  ∃ D : DataW Value, w.ownsMap Try.prog M.k raw m n D ∧ size D = n ∧ ∀ x, M.ok x → has D (M.key x) = (f x).isSome ∧ D.atKey (M.key x) (.held M.z) = .held ((f x).getD M.z)
theorem MapAt.made (w : World) : MapAt M (w.alloc (.map #[] 0)) w.heap.size 0 (fun _ => none) := ⟨.map [], World.ownsMap_made _ _ _ _, rfl, fun _ _ => ⟨rfl, rfl⟩⟩
theorem MapAt.lt (h : MapAt M w m n f) : m < w.heap.size := by
  obtain ⟨D, h1, -⟩ := h
  exact h1.lt
theorem MapAt.of_block (h : MapAt M w m n f) (hb : w'.heap[m]? = w.heap[m]?) : MapAt M w' m n f := by
  obtain ⟨D, ⟨es, clock, hh, F, hs, hD⟩, h2⟩ := h
  exact ⟨D, ⟨es, clock, hb.trans hh, F, hs, hD⟩, h2⟩
theorem MapAt.below (h : MapAt M w m n f) (hb : Below w.heap.size w w') : MapAt M w' m n f := h.of_block (hb.block _ h.lt)
theorem MapAt.grown (h : MapAt M w m n f) {row : Option Nat} (hg : w.grownBy w' row) (hne : some m ≠ row) : MapAt M w' m n f := h.of_block (hg.block m h.lt hne)
theorem MapAt.set (h : MapAt M w m n f) {a : Addr} (ha : a.block ≠ m) (u : Value) : MapAt M (w.setCell a u) m n f := h.of_block (Below.heap_setCell _ _ _ _ (fun e => ha e.symm))
theorem MapAt.ext (h : MapAt M w m n f) {g : κ → Option Value} (he : ∀ x, M.ok x → f x = g x) : MapAt M w m n g := by
  obtain ⟨D, h1, h2, h3⟩ := h
  exact ⟨D, h1, h2, fun x hx => by rw [← he x hx]; exact h3 x hx⟩
theorem MapAt.look (h : MapAt M w m n f) (L : M.Law) {x : κ} (hx : M.ok x) : (Instr.lookup M.t (.map (some m)) (M.kv x) false).run Try.prog w = .ok ((f x).getD M.z) w := by
  obtain ⟨D, h1, -, h2⟩ := h
  obtain ⟨v, ps, hrun, hv⟩ := h1.lookup L.K L.t (L.z w) (show raw _ = some (.held M.z, []) from rfl) (L.key x hx)
  rw [(h2 x hx).2] at hv
  obtain rfl := raw_inv hv
  exact hrun
theorem MapAt.look_ok (h : MapAt M w m n f) (L : M.Law) {x : κ} (hx : M.ok x) : (Instr.lookup M.t (.map (some m)) (M.kv x) true).run Try.prog w = .ok (.tuple #[(f x).getD M.z, .bool (f x).isSome]) w := by
  obtain ⟨D, h1, -, h2⟩ := h
  obtain ⟨v, ps, hrun, hv⟩ := h1.look_ok L.K L.t (L.z w) (show raw _ = some (.held M.z, []) from rfl) (L.key x hx)
  rw [(h2 x hx).2] at hv
  rw [(h2 x hx).1] at hrun
  obtain rfl := raw_inv hv
  exact hrun
theorem MapAt.len (h : MapAt M w m n f) (L : M.Law) (ty : TypeId) : (Builtin.len_ #[M.t] ty #[.map (some m)]).run Try.prog w = .ok (.int .i64 n) w := by
  obtain ⟨D, h1, h2, -⟩ := h
  rw [← h2]
  exact h1.len L.t ty
/-- f, but for one key -/
def putF [DecidableEq κ] (f : κ → Option Value) (x : κ) (u : Value) : κ → Option Value := fun y => if y = x then some u else f y
theorem exactMap {k : TypeId} {D : DataW Value} {N : Nat} (h : w.ownsMap Try.prog k raw m N D) : w.ownsMap Try.prog k raw m (size D) D := by
  obtain ⟨es, clock, hh, F, hs, rfl⟩ := h
  refine ⟨es, clock, hh, F, ?_, rfl⟩
  simp [size, length_sorted]
theorem MapAt.put [DecidableEq κ] {D : DataW Value} (L : M.Law) (h1 : w.ownsMap Try.prog M.k raw m n D) (h2 : size D = n) (h3 : ∀ x, M.ok x → has D (M.key x) = (f x).isSome ∧ D.atKey (M.key x) (.held M.z) = .held ((f x).getD M.z)) {x : κ} (hx : M.ok x) {u : Value} {N : Nat}
    (h4 : w'.ownsMap Try.prog M.k raw m N (D.put (M.key x) (.held u))) : MapAt M w' m (if (f x).isSome then n else n + 1) (putF f x u) := by
  have hs : size (D.put (M.key x) (.held u)) = if (f x).isSome then n else n + 1 := by
    rw [size_put (h1.tidy L.K), (h3 x hx).1, h2]
  refine ⟨_, ?_, hs, fun y hy => ?_⟩
  · rw [← hs]
    exact exactMap h4
  · unfold putF
    by_cases e : y = x
    · subst e
      rw [if_pos rfl]
      exact ⟨has_put_same h1.isMap (L.K.key (L.key y hy)) _, atKey_put_same h1.isMap (L.K.key (L.key y hy)) _ _⟩
    · have hne : M.key y ≠ M.key x := fun h => e (L.inj y x hy hx h)
      rw [if_neg e]
      exact ⟨(has_put_other hne _).trans (h3 y hy).1, (atKey_put_other hne _ _).trans (h3 y hy).2⟩
theorem wpList_putM [DecidableEq κ] (L : M.Law) (w : World) {ops : Array Oper} {rest : List Oper} {o : Oper} {a : Act} {Q : Exit → Act → World → Prop}
    (hg : o.guard = none) (mo x v : Operand) (hop : o.op = Op.mapUpdate M.t mo x v) (hm : a.eval mo = .map (some m)) (h : MapAt M w m n f) (hn : n < maxLen) (y : κ) (hy : M.ok y) (hx : a.eval x = M.kv y) (u : Value) (hv : a.eval v = u)
    (hK : ∀ w', MapAt M w' m (if (f y).isSome then n else n + 1) (putF f y u) → w.grownBy w' (some m) → wpList Try.prog ops Q rest (a.put o.dst undef) w') :
    wpList Try.prog ops Q (o :: rest) a w := by
  obtain ⟨D, h1, h2, h3⟩ := h
  exact wpList_mapUpdate_own w hg mo x v M.t hop M.k M.e L.K L.t raw m n D hm h1 hn _ _ (M.key y) hx hv (L.key y hy) (.held u) [] rfl fun w' hw' hg' => hK w' (MapAt.put L h1 h2 h3 hy hw') hg'
theorem wpListIn_putM [DecidableEq κ] {F : Fence} {nF : Nat} (L : M.Law) (w : World) {ops : Array Oper} {rest : List Oper} {o : Oper} {a : Act} {Q : Exit → Act → World → Prop}
    (hg : o.guard = none) (mo x v : Operand) (hop : o.op = Op.mapUpdate M.t mo x v) (hm : a.eval mo = .map (some m)) (h : MapAt M w m n f) (hn : n < maxLen) (y : κ) (hy : M.ok y) (hx : a.eval x = M.kv y) (u : Value) (hv : a.eval v = u)
    (hK : ∀ w', MapAt M w' m (if (f y).isSome then n else n + 1) (putF f y u) → w.grownBy w' (some m) → wpListIn F nF Try.prog ops Q rest (a.put o.dst undef) w') :
    wpListIn F nF Try.prog ops Q (o :: rest) a w := by
  obtain ⟨D, h1, h2, h3⟩ := h
  exact wpListIn_mapUpdate_own w hg mo x v M.t hop M.k M.e L.K L.t raw m n D hm h1 hn _ _ (M.key y) hx hv (L.key y hy) (.held u) [] rfl fun w' hw' hg' => hK w' (MapAt.put L h1 h2 h3 hy hw') hg'
end

theorem keyOf_str {k : TypeId} (hk : Try.prog.underlying k = some .string) {s : ByteArray} (hs : s.size ≤ maxLen) : keyOf Try.prog k (.string s) = some (.string s.data.toList) := by
  unfold keyOf mapKey
  rw [hk]
  simp [hs]
def strK (e t : TypeId) (z : Value) : MK ByteArray := ⟨9, e, t, .string, fun s => .string s.data.toList, fun s => s.size ≤ maxLen, z⟩
def plK (e t : TypeId) (z : Value) : MK (Int × Int) := ⟨70, e, t, fun p => .agg #[.int .i64 p.1, .int .i64 p.2], fun p => placeK p.1 p.2, fun p => isI64 p.1 ∧ isI64 p.2, z⟩
theorem strK_law {e t : TypeId} {z : Value} (ht : Try.prog.underlying t = some (.map 9 e)) (hz : ∀ w, (zeroValue e).run Try.prog w = .ok z w) : (strK e t z).Law :=
  ⟨string_keyed Try.underlying9, ht, hz, fun s hs => keyOf_str Try.underlying9 hs, fun a b _ _ h => by
    simp only [strK, Lit.string.injEq] at h
    exact ByteArray.ext (Array.toList_inj.1 h)⟩
theorem plK_law {e t : TypeId} {z : Value} (ht : Try.prog.underlying t = some (.map 70 e)) (hz : ∀ w, (zeroValue e).run Try.prog w = .ok z w) : (plK e t z).Law :=
  ⟨lawP, ht, hz, fun p hp => keyOfPl hp.1 hp.2, fun a b ha hb h => Prod.ext (placeK_inj ha.1 ha.2 hb.1 hb.2 h).1 (placeK_inj ha.1 ha.2 hb.1 hb.2 h).2⟩
/-- the three maps of show -/
def backK : MK (Int × Int) := plK 4 90 (.bool false)
def byK : MK ByteArray := strK 26 91 (.slice none 0 0)
def valK : MK ByteArray := strK 4 98 (.bool false)
theorem backK_law : backK.Law := plK_law Try.underlying90 (fun w => by kernel_rfl)
theorem byK_law : byK.Law := strK_law Try.underlying91 (fun w => by kernel_rfl)
theorem valK_law : valK.Law := strK_law Try.underlying98 (fun w => by kernel_rfl)
end Go.Proofs.Ytngigogaiheckaa
