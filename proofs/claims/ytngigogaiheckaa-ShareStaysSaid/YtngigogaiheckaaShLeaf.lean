/- A picture in the memory; contracts of the small functions of package share. -/
import Derived.Maps.OwnOps
import Derived.Maps.OwnSet
import Derived.Maps.RangeWalk
import Derived.Deep.CutRange
import Derived.Maps.Views
import Derived.DeepKeys4
import Derived.MapViews
import Derived.Test.YtngigogaiheckaaShBase
namespace Go.Proofs.Ytngigogaiheckaa
open Go.RowKit Go.Lib Go.Maps

def encSd (s : Sd) : List Value := [.int .i64 s.c, .int .i64 s.n, .string s.key, .string s.val, .int .i64 s.time, .int .i64 s.trust, .int .i64 s.back]
theorem encSd_len (s : Sd) : (encSd s).length = 7 := rfl
def valSd (s : Sd) : Value := .agg #[.int .i64 s.c, .int .i64 s.n, .string s.key, .string s.val, .int .i64 s.time, .int .i64 s.trust, .int .i64 s.back]
/-- a place: a centre, from 0 on, and a number -/
def encP (p : Int × Int) : List Value := [.int .i64 p.1, .int .i64 p.2]
theorem encP_len (p : Int × Int) : (encP p).length = 2 := rfl
def placeOf (s : Sd) : Int × Int := (s.c - 1, s.n)
/-- a vector -/
def encV (v : Nat → Nat) : List Value := [.int .i64 (v 0), .int .i64 (v 1), .int .i64 (v 2), .int .i64 (v 3), .int .i64 (v 4), .int .i64 (v 5), .int .i64 (v 6), .int .i64 (v 7)]
theorem encV_len (v : Nat → Nat) : (encV v).length = 8 := rfl
theorem encV_get (v : Nat → Nat) {c : Nat} (h : c < 8) : (encV v)[c]? = some (.int .i64 (v c)) := by
  have : c = 0 ∨ c = 1 ∨ c = 2 ∨ c = 3 ∨ c = 4 ∨ c = 5 ∨ c = 6 ∨ c = 7 := by omega
  rcases this with rfl | rfl | rfl | rfl | rfl | rfl | rfl | rfl <;> rfl
def valV (v : Nat → Nat) : Value := .agg #[.int .i64 (v 0), .int .i64 (v 1), .int .i64 (v 2), .int .i64 (v 3), .int .i64 (v 4), .int .i64 (v 5), .int .i64 (v 6), .int .i64 (v 7)]
/-- what is known, as a vector -/
def knF (l : List Sd) : Nat → Nat := fun c => kn l ((c + 1 : Nat) : Int)
/-- .. behind each arrival, and at first -/
def knowns (l : List Sd) : List (Nat → Nat) := (List.range (l.length + 1)).map fun i => knF (l.take i)
theorem knowns_len (l : List Sd) : (knowns l).length = l.length + 1 := by simp [knowns]
theorem knowns_get {l : List Sd} {i : Nat} (h : i ≤ l.length) : (knowns l)[i]? = some (knF (l.take i)) := by
  unfold knowns
  rw [List.getElem?_map, List.getElem?_range (by omega)]
  rfl
theorem knowns_snoc (l : List Sd) (s : Sd) : knowns (l ++ [s]) = knowns l ++ [knF (l ++ [s])] := by
  unfold knowns
  rw [List.length_append, List.length_singleton, List.range_succ, List.map_append]
  congr 1
  · refine List.map_congr_left fun i hi => ?_
    have := List.mem_range.1 hi
    rw [List.take_append_of_le_length (by omega)]
  · simp [List.take_of_length_le]

/-! ### the map of statements -/
theorem laidOutP : laidOutB Try.prog = true := by kernel_rfl
theorem rowP' : (70 : TypeId) < Try.prog.types.size := of_decide_eq_true (by kernel_rfl)
theorem wideP : (match Try.prog.underlying 70 with | some (.array _ _) | some (.struct _) => true | _ => false) = true := by rw [Try.underlying70]
set_option maxRecDepth 100000 in
theorem lawP : Keyed Try.prog 70 := Keyed.of_law (deep_law_laid laidOutP (m := 2) (by omega) rowP' (by kernel_rfl) wideP)
theorem keyTypeP : Try.prog.keyType 70 = true := by kernel_rfl
theorem cellsOfP : Try.prog.cellsOf 70 = 2 := by kernel_rfl
theorem cellsOfI : Try.prog.cellsOf 3 = 1 := by kernel_rfl
theorem sizeP : ∃ n, Try.prog.types.size + 1 = n + 1 + 1 := ⟨Try.prog.types.size - 1, by have h : 1 ≤ Try.prog.types.size := Nat.lt_of_le_of_lt (Nat.zero_le _) rowP'; omega⟩
def isI64 (x : Int) : Prop := -9223372036854775808 ≤ x ∧ x ≤ 9223372036854775807
theorem isI64_of {x : Int} (h : -1000000 ≤ x ∧ x ≤ 1000000) : isI64 x := by unfold isI64; omega
theorem wf_of {x : Int} (h : isI64 x) : (Lit.int .i64 x).wf = true := by
  unfold isI64 at h
  exact WalkArith.wf_i64 (by omega)
/-- what a place reads as, as a key -/
def placeK (x y : Int) : Lit := .string (keyBytes [.int .i64 x, .int .i64 y])
theorem keyOfPl {x y : Int} (hx : isI64 x) (hy : isI64 y) : keyOf Try.prog 70 (.agg #[.int .i64 x, .int .i64 y]) = some (placeK x y) := by
  obtain ⟨n, hn⟩ := sizeP
  have hf : (Value.agg #[.int .i64 x, .int .i64 y]).formed Try.prog 70 = true := by simp [Value.formed, Try.underlying70, cellsOfP]
  unfold keyOf
  rw [Try.underlying70]
  simp only [keyTypeP, hf, hn, Bool.and_self, if_true]
  simp [Program.keyLits, Try.underlying70, Try.underlying3, cellsOfP, cellsOfI, Value.cells, wf_of hx, wf_of hy, placeK]
theorem placeK_inj {x y x' y' : Int} (hx : isI64 x) (hy : isI64 y) (hx' : isI64 x') (hy' : isI64 y') (h : placeK x y = placeK x' y') : x = x' ∧ y = y' := by
  have h1 := keyOfPl hx hy
  rw [h] at h1
  have h2 := lawP.inj h1 (keyOfPl hx' hy')
  simp only [Value.agg.injEq, Array.mk.injEq, List.cons.injEq, Value.int.injEq, and_true, true_and] at h2
  exact h2
/-- an element of a map, as it is -/
def raw (v : Value) : Option (DataW Value × List MemPlace) := some (.held v, [])
theorem raw_inv {v u : Value} {ps : List MemPlace} (h : raw v = some (.held u, ps)) : v = u := by
  simp only [raw, Option.some.injEq, Prod.mk.injEq, DataW.held.injEq] at h
  exact h.1
theorem zeroSd (w : World) : (zeroValue 38).run Try.prog w = .ok (valSd noSd) w := by kernel_rfl

/-- block m is the map of the statements of a list, by their places -/
def There (w : World) (m n : Nat) (l : List Sd) : Prop :=
  ∃ D : DataW Value, w.ownsMap Try.prog 70 raw m n D ∧ ∀ c k, isI64 c → isI64 k → has D (placeK c k) = hasP l (c + 1) k ∧ D.atKey (placeK c k) (.held (valSd noSd)) = .held (valSd (getP l (c + 1) k))
theorem There.made (w : World) : There (w.alloc (.map #[] 0)) w.heap.size 0 [] := ⟨.map [], World.ownsMap_made _ _ _ _, fun _ _ _ _ => ⟨rfl, rfl⟩⟩
theorem There.kept {w w' : World} {m n : Nat} {l : List Sd} {row : Option Nat} (h : There w m n l) (hg : w.grownBy w' row) (hne : some m ≠ row) : There w' m n l := by
  obtain ⟨D, h1, h2⟩ := h
  exact ⟨D, h1.kept hg hne, h2⟩
theorem There.lt {w : World} {m n : Nat} {l : List Sd} (h : There w m n l) : m < w.heap.size := by
  obtain ⟨D, h1, -⟩ := h
  exact h1.lt
theorem There.of_block {w w' : World} {m n : Nat} {l : List Sd} (h : There w m n l) (hb : w'.heap[m]? = w.heap[m]?) : There w' m n l := by
  obtain ⟨D, ⟨es, clock, hh, F, hs, hD⟩, h2⟩ := h
  exact ⟨D, ⟨es, clock, hb.trans hh, F, hs, hD⟩, h2⟩
theorem There.below {w w' : World} {m n : Nat} {l : List Sd} (h : There w m n l) (hb : Below w.heap.size w w') : There w' m n l := h.of_block (hb.block _ h.lt)
/-- what 'm[place]' gives -/
theorem There.look {w : World} {m n : Nat} {l : List Sd} (h : There w m n l) {c k : Int} (hc : isI64 c) (hk : isI64 k) :
    (Instr.lookup 68 (.map (some m)) (.agg #[.int .i64 c, .int .i64 k]) false).run Try.prog w = .ok (valSd (getP l (c + 1) k)) w := by
  obtain ⟨D, h1, h2⟩ := h
  obtain ⟨v, ps, hrun, hv⟩ := h1.lookup lawP Try.underlying68 (zeroSd w) (show raw _ = some (.held (valSd noSd), []) from rfl) (keyOfPl hc hk)
  rw [(h2 c k hc hk).2] at hv
  obtain rfl := raw_inv hv
  exact hrun
/-- what 'v, ok := m[place]' gives -/
theorem There.look_ok {w : World} {m n : Nat} {l : List Sd} (h : There w m n l) {c k : Int} (hc : isI64 c) (hk : isI64 k) :
    (Instr.lookup 68 (.map (some m)) (.agg #[.int .i64 c, .int .i64 k]) true).run Try.prog w = .ok (.tuple #[valSd (getP l (c + 1) k), .bool (hasP l (c + 1) k)]) w := by
  obtain ⟨D, h1, h2⟩ := h
  obtain ⟨v, ps, hrun, hv⟩ := h1.look_ok lawP Try.underlying68 (zeroSd w) (show raw _ = some (.held (valSd noSd), []) from rfl) (keyOfPl hc hk)
  rw [(h2 c k hc hk).2] at hv
  rw [(h2 c k hc hk).1] at hrun
  obtain rfl := raw_inv hv
  exact hrun
/-- a statement is laid in -/
theorem There.put {D : DataW Value} {l : List Sd} (hM : IsMap D) (h : ∀ c k, isI64 c → isI64 k → has D (placeK c k) = hasP l (c + 1) k ∧ D.atKey (placeK c k) (.held (valSd noSd)) = .held (valSd (getP l (c + 1) k))) {s : Sd} (hs : SdOK s) (hn : hasP l s.c s.n = false) :
    ∀ c k, isI64 c → isI64 k → has (D.put (placeK (s.c - 1) s.n) (.held (valSd s))) (placeK c k) = hasP (l ++ [s]) (c + 1) k ∧ (D.put (placeK (s.c - 1) s.n) (.held (valSd s))).atKey (placeK c k) (.held (valSd noSd)) = .held (valSd (getP (l ++ [s]) (c + 1) k)) := by
  intro c k hc hk
  have ic : isI64 (s.c - 1) := isI64_of (by have := hs.c; omega)
  have in' : isI64 s.n := isI64_of (by have := hs.n; omega)
  have hnone : atP l s.c s.n = none := by
    unfold hasP at hn
    cases e : atP l s.c s.n with
    | none => rfl
    | some t => rw [e] at hn; cases hn
  by_cases e : c = s.c - 1 ∧ k = s.n
  · have e1 : c + 1 = s.c := by omega
    have e2 : atP (l ++ [s]) s.c s.n = some s := by rw [atP_append, hnone, atP_one, if_pos ⟨rfl, rfl⟩]; rfl
    rw [e1, e.1, e.2]
    unfold hasP getP
    rw [e2]
    exact ⟨has_put_same hM (lawP.key (keyOfPl ic in')) _, atKey_put_same hM (lawP.key (keyOfPl ic in')) _ _⟩
  · have hne : placeK c k ≠ placeK (s.c - 1) s.n := fun h => e (placeK_inj hc hk ic in' h)
    have e2 : atP (l ++ [s]) (c + 1) k = atP l (c + 1) k := by
      rw [atP_append, atP_one, if_neg (fun h => e ⟨by omega, h.2.symm⟩)]
      simp
    have h3 := h c k hc hk
    unfold hasP getP at h3 ⊢
    rw [e2]
    exact ⟨(has_put_other hne _).trans h3.1, (atKey_put_other hne _ _).trans h3.2⟩

/-! ### a picture -/
/-- a picture in block p, its map in block m, its slices va, vk; the map holds lm, the arrivals are la, what is known that behind lk; all its blocks are among F -/
structure PicP (w : World) (F : Nat → Prop) (p m : Nat) (va vk : Value) (cen : Int) (lm la lk : List Sd) : Prop where
  c0 : w.cell? ⟨p, 0, none⟩ = some (.int .i64 cen)
  c1 : w.cell? ⟨p, 1, none⟩ = some (.map (some m))
  c2 : w.cell? ⟨p, 2, none⟩ = some va
  c3 : w.cell? ⟨p, 3, none⟩ = some vk
  f2 : w.frozen? ⟨p, 2, none⟩ = false
  f3 : w.frozen? ⟨p, 3, none⟩ = false
  lt : p < w.heap.size
  mp : There w m lm.length lm
  ra : w.ownsRow 0 70 2 va la.length (flatE encP (la.map placeOf))
  rk : w.ownsRow 0 62 8 vk (lk.length + 1) (flatE encV (knowns lk))
  pm : p ≠ m
  ap : va.ownBlock ≠ some p
  am : va.ownBlock ≠ some m
  kp : vk.ownBlock ≠ some p
  km : vk.ownBlock ≠ some m
  ak : ∀ b, va.ownBlock = some b → vk.ownBlock ≠ some b
  fp : F p
  fm : F m
  fa : ∀ b, va.ownBlock = some b → F b
  fk : ∀ b, vk.ownBlock = some b → F b
abbrev PicAt (w : World) (F : Nat → Prop) (p m : Nat) (va vk : Value) (cen : Int) (arr : List Sd) : Prop := PicP w F p m va vk cen arr arr arr
def Pic (w : World) (F : Nat → Prop) (p : Nat) (cen : Int) (arr : List Sd) : Prop := ∃ m va vk, PicAt w F p m va vk cen arr
/-- blocks below may turn only if they are among F -/
structure Ext (F : Nat → Prop) (w w' : World) : Prop where
  os : w'.os = w.os
  tape : w'.tape = w.tape
  output : w'.output = w.output
  size : w.heap.size ≤ w'.heap.size
  block : ∀ k, k < w.heap.size → ¬ F k → w'.heap[k]? = w.heap[k]?
theorem Ext.refl (F : Nat → Prop) (w : World) : Ext F w w := ⟨rfl, rfl, rfl, Nat.le_refl _, fun _ _ _ => rfl⟩
theorem Ext.of_below {F : Nat → Prop} {w w' : World} (h : Below w.heap.size w w') : Ext F w w' := ⟨h.os, h.tape, h.output, h.size, fun k hk _ => h.block k hk⟩
theorem Ext.grown {F : Nat → Prop} {w w1 w2 : World} {row : Option Nat} (h : Ext F w w1) (hg : w1.grownBy w2 row) (hr : ∀ r, row = some r → F r) : Ext F w w2 :=
  ⟨hg.os.trans h.os, hg.tape.trans h.tape, hg.output.trans h.output, Nat.le_trans h.size hg.size, fun k hk hf => (hg.block k (Nat.lt_of_lt_of_le hk h.size) (fun e => hf (hr k e.symm))).trans (h.block k hk hf)⟩
theorem Ext.thenBelow {F : Nat → Prop} {w w1 w2 : World} (h : Ext F w w1) (hb : Below w1.heap.size w1 w2) : Ext F w w2 :=
  ⟨hb.os.trans h.os, hb.tape.trans h.tape, hb.output.trans h.output, Nat.le_trans h.size hb.size, fun k hk hf => (hb.block k (Nat.lt_of_lt_of_le hk h.size)).trans (h.block k hk hf)⟩
theorem Ext.setCell {F : Nat → Prop} {w w1 : World} (h : Ext F w w1) {a : Addr} (ha : F a.block ∨ w.heap.size ≤ a.block) (u : Value) : Ext F w (w1.setCell a u) :=
  ⟨h.os, h.tape, h.output, by simpa using h.size, fun k hk hf => (Below.heap_setCell _ _ _ _ (fun e => ha.elim (fun x => hf (by rw [e]; exact x)) (fun x => by omega))).trans (h.block k hk hf)⟩
theorem Ext.drew {F : Nat → Prop} {w w1 : World} (h : Ext F w w1) : Ext F w w1.drew := ⟨h.os, h.tape, h.output, h.size, h.block⟩
/-- F and all blocks laid since -/
def Gr (F : Nat → Prop) (w w' : World) : Nat → Prop := fun b => F b ∨ (w.heap.size ≤ b ∧ b < w'.heap.size)
section
variable {w w' : World} {F F' : Nat → Prop} {p m : Nat} {va vk : Value} {cen : Int} {lm la lk : List Sd}
theorem ownsBlocks {v : Value} {e : TypeId} {z n : Nat} {xs : List Value} (hr : w.ownsRow 0 e z v n xs) (hF2 : ∀ b, b < w.heap.size → v.ownBlock = some b → w'.heap[b]? = w.heap[b]?) : w'.ownsRow 0 e z v n xs := by
  refine ⟨hr.1, ?_⟩
  rcases hr.2 with h1 | ⟨g, cap, cur, rfl, hb, hh, hr2⟩
  · exact .inl h1
  · exact .inr ⟨g, cap, cur, rfl, hb, (hF2 g (Array.getElem?_eq_some_iff.1 hh).1 rfl).trans hh, hr2⟩
theorem PicP.keep (h : PicP w F p m va vk cen lm la lk) (hs : w.heap.size ≤ w'.heap.size) (hk : ∀ k, k < w.heap.size → F k → w'.heap[k]? = w.heap[k]?) (hF : ∀ b, F b → F' b) : PicP w' F' p m va vk cen lm la lk := by
  have hp : w'.heap[p]? = w.heap[p]? := hk p h.lt h.fp
  have hc : ∀ i, w'.cell? ⟨p, i, none⟩ = w.cell? ⟨p, i, none⟩ := fun i => World.cell?_of_block hp
  have hf : ∀ i, w'.frozen? ⟨p, i, none⟩ = w.frozen? ⟨p, i, none⟩ := fun i => World.frozen?_of_block hp
  exact ⟨(hc 0).trans h.c0, (hc 1).trans h.c1, (hc 2).trans h.c2, (hc 3).trans h.c3, (hf 2).trans h.f2, (hf 3).trans h.f3, Nat.lt_of_lt_of_le h.lt hs, h.mp.of_block (hk m h.mp.lt h.fm), ownsBlocks h.ra (fun b hb e => hk b hb (h.fa b e)), ownsBlocks h.rk (fun b hb e => hk b hb (h.fk b e)),
    h.pm, h.ap, h.am, h.kp, h.km, h.ak, hF p h.fp, hF m h.fm, fun b e => hF b (h.fa b e), fun b e => hF b (h.fk b e)⟩
theorem PicP.wide (h : PicP w F p m va vk cen lm la lk) (hF : ∀ b, F b → F' b) : PicP w F' p m va vk cen lm la lk := h.keep (Nat.le_refl _) (fun _ _ _ => rfl) hF
theorem PicP.below (h : PicP w F p m va vk cen lm la lk) (hb : Below w.heap.size w w') : PicP w' F p m va vk cen lm la lk := h.keep hb.size (fun k hk _ => hb.block k hk) fun _ h => h
theorem PicP.alloc (h : PicP w F p m va vk cen lm la lk) (o : Obj) : PicP (w.alloc o) F p m va vk cen lm la lk := h.below ((Below.refl _ _).alloc (Nat.le_refl _) _)
/-- a cell of a block that is none of the picture's -/
theorem PicP.other (h : PicP w F p m va vk cen lm la lk) {a : Addr} (ha : ¬ F a.block) (u : Value) : PicP (w.setCell a u) F p m va vk cen lm la lk :=
  h.keep (by simp) (fun k _ hf => Below.heap_setCell _ _ _ _ (fun e => ha (e ▸ hf))) fun _ h => h
/-- a cell of a block that is none of the picture's: by its blocks -/
theorem PicP.off (h : PicP w F p m va vk cen lm la lk) {a : Addr} (h1 : a.block ≠ p) (h2 : a.block ≠ m) (h3 : va.ownBlock ≠ some a.block) (h4 : vk.ownBlock ≠ some a.block) (u : Value) : PicP (w.setCell a u) F p m va vk cen lm la lk := by
  have hp : (w.setCell a u).heap[p]? = w.heap[p]? := Below.heap_setCell _ _ _ _ (fun e => h1 e.symm)
  have hc : ∀ i, (w.setCell a u).cell? ⟨p, i, none⟩ = w.cell? ⟨p, i, none⟩ := fun i => World.cell?_of_block hp
  have hf : ∀ i, (w.setCell a u).frozen? ⟨p, i, none⟩ = w.frozen? ⟨p, i, none⟩ := fun i => World.frozen?_of_block hp
  exact { h with c0 := (hc 0).trans h.c0, c1 := (hc 1).trans h.c1, c2 := (hc 2).trans h.c2, c3 := (hc 3).trans h.c3, f2 := (hf 2).trans h.f2, f3 := (hf 3).trans h.f3, lt := by simpa using h.lt, mp := h.mp.of_block (Below.heap_setCell _ _ _ _ (fun e => h2 e.symm)), ra := ownsSetO h.ra h3 u, rk := ownsSetO h.rk h4 u }
/-- a statement is laid into the map -/
theorem PicP.put (h : PicP w F p m va vk cen lm la lk) {s : Sd} (hg : w.grownBy w' (some m)) (ht : There w' m (lm.length + 1) (lm ++ [s])) : PicP w' F p m va vk cen (lm ++ [s]) la lk := by
  have hp : w'.heap[p]? = w.heap[p]? := hg.block p h.lt (fun e => h.pm (Option.some.inj e))
  have hc : ∀ i, w'.cell? ⟨p, i, none⟩ = w.cell? ⟨p, i, none⟩ := fun i => World.cell?_of_block hp
  have hf : ∀ i, w'.frozen? ⟨p, i, none⟩ = w.frozen? ⟨p, i, none⟩ := fun i => World.frozen?_of_block hp
  exact ⟨(hc 0).trans h.c0, (hc 1).trans h.c1, (hc 2).trans h.c2, (hc 3).trans h.c3, (hf 2).trans h.f2, (hf 3).trans h.f3, Nat.lt_of_lt_of_le h.lt hg.size, by rw [List.length_append]; exact ht, ownsBlocks h.ra (fun b hb e => hg.block b hb (fun e2 => h.am (e.trans e2))), ownsBlocks h.rk (fun b hb e => hg.block b hb (fun e2 => h.km (e.trans e2))),
    h.pm, h.ap, h.am, h.kp, h.km, h.ak, h.fp, h.fm, h.fa, h.fk⟩
/-- a place is appended to the arrivals -/
theorem PicP.arrive (h : PicP w F p m va vk cen lm la lk) {s : Sd} {g cap : Nat} (hg : w.grownBy w' va.ownBlock) (ho : w'.ownsRow 0 70 2 (.slice (some ⟨g, 0, none⟩) (la.length + 1) cap) (la.length + 1) (flatE encP (la.map placeOf) ++ encP (placeOf s)))
    (hat : va.ownBlock = some g ∨ w.heap.size ≤ g) (hF : ∀ b, F b → F' b) (hFg : F' g) : PicP (w'.setCell ⟨p, 2, none⟩ (.slice (some ⟨g, 0, none⟩) (la.length + 1) cap)) F' p m (.slice (some ⟨g, 0, none⟩) (la.length + 1) cap) vk cen lm (la ++ [s]) lk := by
  have hp : w'.heap[p]? = w.heap[p]? := hg.block p h.lt (fun e => h.ap e.symm)
  have hc : ∀ i, w'.cell? ⟨p, i, none⟩ = w.cell? ⟨p, i, none⟩ := fun i => World.cell?_of_block hp
  have hf : ∀ i, w'.frozen? ⟨p, i, none⟩ = w.frozen? ⟨p, i, none⟩ := fun i => World.frozen?_of_block hp
  have hgp : g ≠ p := by
    rcases hat with e | e
    · exact fun e2 => h.ap (e2 ▸ e)
    · have := h.lt; omega
  have hgm : g ≠ m := by
    rcases hat with e | e
    · exact fun e2 => h.am (e2 ▸ e)
    · have := h.mp.lt; omega
  have hgk : vk.ownBlock ≠ some g := by
    rcases hat with e | e
    · exact h.ak g e
    · intro e2
      have := (ownBlock_lt h.rk e2).2
      omega
  have hpl : p < w'.heap.size := Nat.lt_of_lt_of_le h.lt hg.size
  have h2 : w'.cell? ⟨p, 2, none⟩ = some va := (hc 2).trans h.c2
  have hs : ∀ i, i ≠ 2 → (w'.setCell ⟨p, 2, none⟩ (.slice (some ⟨g, 0, none⟩) (la.length + 1) cap)).cell? ⟨p, i, none⟩ = w'.cell? ⟨p, i, none⟩ := fun i hi => by
    rw [World.cell?_setCell_other]
    intro e
    simp only [Addr.mk.injEq, and_true, true_and] at e
    omega
  refine ⟨(hs 0 (by omega)).trans ((hc 0).trans h.c0), (hs 1 (by omega)).trans ((hc 1).trans h.c1), ?_, (hs 3 (by omega)).trans ((hc 3).trans h.c3), ?_, ?_, by simpa using hpl, ?_, ?_, ?_, h.pm, by simpa [Value.ownBlock] using hgp, by simpa [Value.ownBlock] using hgm, h.kp, h.km, ?_, hF p h.fp, hF m h.fm, ?_, fun b e => hF b (h.fk b e)⟩
  · exact World.cell?_setCell_same _ _ _ h2
  · rw [World.frozen?_setCell]; exact (hf 2).trans h.f2
  · rw [World.frozen?_setCell]; exact (hf 3).trans h.f3
  · refine (h.mp.of_block (hg.block m h.mp.lt (fun e => h.am e.symm))).of_block (Below.heap_setCell _ _ _ _ (fun e => h.pm e.symm))
  · have e1 : flatE encP ((la ++ [s]).map placeOf) = flatE encP (la.map placeOf) ++ encP (placeOf s) := by simp [flatE]
    rw [List.length_append, e1]
    exact ownsSetO ho (by simpa [Value.ownBlock] using hgp) _
  · exact ownsSetO (ownsBlocks h.rk (fun b hb e => hg.block b hb (fun e2 => h.ak b e2.symm e))) h.kp _
  · intro b e e2
    simp only [Value.ownBlock, Option.some.injEq] at e
    exact hgk (e ▸ e2)
  · intro b e
    simp only [Value.ownBlock, Option.some.injEq] at e
    exact e ▸ hFg
/-- a vector is appended to what is known -/
theorem PicP.learn (h : PicP w F p m va vk cen lm la lk) {s : Sd} {g cap : Nat} (hg : w.grownBy w' vk.ownBlock) (ho : w'.ownsRow 0 62 8 (.slice (some ⟨g, 0, none⟩) (lk.length + 1 + 1) cap) (lk.length + 1 + 1) (flatE encV (knowns lk) ++ encV (knF (lk ++ [s]))))
    (hat : vk.ownBlock = some g ∨ w.heap.size ≤ g) (hF : ∀ b, F b → F' b) (hFg : F' g) : PicP (w'.setCell ⟨p, 3, none⟩ (.slice (some ⟨g, 0, none⟩) (lk.length + 1 + 1) cap)) F' p m va (.slice (some ⟨g, 0, none⟩) (lk.length + 1 + 1) cap) cen lm la (lk ++ [s]) := by
  have hp : w'.heap[p]? = w.heap[p]? := hg.block p h.lt (fun e => h.kp e.symm)
  have hc : ∀ i, w'.cell? ⟨p, i, none⟩ = w.cell? ⟨p, i, none⟩ := fun i => World.cell?_of_block hp
  have hf : ∀ i, w'.frozen? ⟨p, i, none⟩ = w.frozen? ⟨p, i, none⟩ := fun i => World.frozen?_of_block hp
  have hgp : g ≠ p := by
    rcases hat with e | e
    · exact fun e2 => h.kp (e2 ▸ e)
    · have := h.lt; omega
  have hgm : g ≠ m := by
    rcases hat with e | e
    · exact fun e2 => h.km (e2 ▸ e)
    · have := h.mp.lt; omega
  have hgk : va.ownBlock ≠ some g := by
    rcases hat with e | e
    · exact fun e2 => h.ak g e2 e
    · intro e2
      have := (ownBlock_lt h.ra e2).2
      omega
  have hpl : p < w'.heap.size := Nat.lt_of_lt_of_le h.lt hg.size
  have h2 : w'.cell? ⟨p, 3, none⟩ = some vk := (hc 3).trans h.c3
  have hs : ∀ i, i ≠ 3 → (w'.setCell ⟨p, 3, none⟩ (.slice (some ⟨g, 0, none⟩) (lk.length + 1 + 1) cap)).cell? ⟨p, i, none⟩ = w'.cell? ⟨p, i, none⟩ := fun i hi => by
    rw [World.cell?_setCell_other]
    intro e
    simp only [Addr.mk.injEq, and_true, true_and] at e
    omega
  refine ⟨(hs 0 (by omega)).trans ((hc 0).trans h.c0), (hs 1 (by omega)).trans ((hc 1).trans h.c1), (hs 2 (by omega)).trans ((hc 2).trans h.c2), ?_, ?_, ?_, by simpa using hpl, ?_, ?_, ?_, h.pm, h.ap, h.am, by simpa [Value.ownBlock] using hgp, by simpa [Value.ownBlock] using hgm, ?_, hF p h.fp, hF m h.fm, fun b e => hF b (h.fa b e), ?_⟩
  · exact World.cell?_setCell_same _ _ _ h2
  · rw [World.frozen?_setCell]; exact (hf 2).trans h.f2
  · rw [World.frozen?_setCell]; exact (hf 3).trans h.f3
  · refine (h.mp.of_block (hg.block m h.mp.lt (fun e => h.km e.symm))).of_block (Below.heap_setCell _ _ _ _ (fun e => h.pm e.symm))
  · exact ownsSetO (ownsBlocks h.ra (fun b hb e => hg.block b hb (fun e2 => h.ak b e e2.symm))) h.ap _
  · have e1 : flatE encV (knowns (lk ++ [s])) = flatE encV (knowns lk) ++ encV (knF (lk ++ [s])) := by rw [knowns_snoc]; simp [flatE]
    rw [List.length_append, e1]
    exact ownsSetO ho (by simpa [Value.ownBlock] using hgp) _
  · intro b e e2
    simp only [Value.ownBlock, Option.some.injEq] at e2
    exact hgk (e2 ▸ e)
  · intro b e
    simp only [Value.ownBlock, Option.some.injEq] at e
    exact e ▸ hFg
/-- F and all blocks from one on -/
def Fr (F : Nat → Prop) (N : Nat) : Nat → Prop := fun b => F b ∨ N ≤ b
theorem PicP.fin {w0 : World} {N : Nat} (h : PicP w (Fr F N) p m va vk cen lm la lk) (hN : w0.heap.size = N) : PicP w (Gr F w0 w) p m va vk cen lm la lk := by
  subst hN
  have key : ∀ b, Fr F w0.heap.size b → b < w.heap.size → Gr F w0 w b := fun b hb hl => hb.imp id fun h => ⟨h, hl⟩
  exact { h with fp := key p h.fp h.lt, fm := key m h.fm h.mp.lt, fa := fun b e => key b (h.fa b e) (ownBlock_lt h.ra e).2, fk := fun b e => key b (h.fk b e) (ownBlock_lt h.rk e).2 }
theorem Pic.below {p : Nat} {arr : List Sd} (h : Pic w F p cen arr) (hb : Below w.heap.size w w') : Pic w' F p cen arr := by
  obtain ⟨m, va, vk, h⟩ := h
  exact ⟨m, va, vk, h.below hb⟩
/-- another picture's blocks turn -/
theorem Pic.ext {G : Nat → Prop} {p : Nat} {arr : List Sd} (h : Pic w F p cen arr) (he : Ext G w w') (hd : ∀ b, F b → ¬ G b) : Pic w' F p cen arr := by
  obtain ⟨m, va, vk, h⟩ := h
  exact ⟨m, va, vk, h.keep he.size (fun k hk hf => he.block k hk (hd k hf)) fun _ h => h⟩
theorem PicP.known (h : PicP w F p m va vk cen lm la lk) :
    ∃ g cap, vk = .slice (some ⟨g, 0, none⟩) (lk.length + 1) cap ∧ g < w.heap.size ∧ ∀ i c, i ≤ lk.length → c < 8 → w.cell? ⟨g, i * 8 + c, none⟩ = some (.int .i64 (knF (lk.take i) c)) := by
  obtain ⟨g, cap, rfl, hb, hlt⟩ := h.rk.form (Nat.succ_pos _)
  have hc := h.rk.cells (g := g) rfl
  refine ⟨g, cap, rfl, hlt, fun i c hi hcc => ?_⟩
  have h1 := hc _ _ (flatE_get encV_len (knowns lk) i c _ _ (knowns_get hi) (encV_get _ hcc))
  rw [add_pl, Nat.zero_add] at h1
  exact h1
end
end Go.Proofs.Ytngigogaiheckaa
