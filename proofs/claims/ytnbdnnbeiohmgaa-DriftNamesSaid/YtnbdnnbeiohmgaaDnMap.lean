/- drift: laws of the map of pushes. -/
import Derived.Test.YtnbdnnbeiohmgaaDnChunk
import Derived.MapKept
namespace Go.Proofs.Ytnbdnnbeiohmgaa
open Go.RowKit Go.Shelf Go.Lib Go.Maps
/-- the pushes of the bay -/
def Sided (lo hi : Int) : Prop := (lo = 50 ∧ hi = 100) ∨ (lo = -100 ∧ hi = -50)
def keyP (lo hi : Int) : Value := .agg #[.int .i64 100, .int .i64 lo, .int .i64 100, .int .i64 hi]
def oneP (lo hi : Int) (v : Value) : Array MapEntry := #[{ key := .agg #[.int .i64 100, .int .i64 lo, .int .i64 100, .int .i64 hi], val := v, born := 0 }]
theorem ckP (a b c d : Int) (w : World) (u : Bool) : (Instr.checkKey u 10000 28 (.agg #[.int .i64 a, .int .i64 b, .int .i64 c, .int .i64 d])).run Try.prog w = .ok () w := by kernel_rfl
theorem fk0 (k : Value) (w : World) : (Instr.findKey 28 k []).run Try.prog w = .ok none w := by kernel_rfl
theorem undP (w : World) : (underlying 249).run Try.prog w = .ok (.map 28 36) w := by kernel_rfl
theorem zvP (w : World) : (zeroValue 36).run Try.prog w = .ok (.slice none 0 0) w := by kernel_rfl
theorem fkA (v : Value) (n : Nat) (w : World) : (Instr.findKey 28 (keyP 50 100) [{ key := keyP 50 100, val := v, born := n }]).run Try.prog w = .ok (some (0, v)) w := by kernel_rfl
theorem fkB (v : Value) (n : Nat) (w : World) : (Instr.findKey 28 (keyP (-100) (-50)) [{ key := keyP (-100) (-50), val := v, born := n }]).run Try.prog w = .ok (some (0, v)) w := by kernel_rfl
theorem fk1 {lo hi : Int} (h : Sided lo hi) (v : Value) (n : Nat) (w : World) : (Instr.findKey 28 (.agg #[.int .i64 100, .int .i64 lo, .int .i64 100, .int .i64 hi]) [{ key := .agg #[.int .i64 100, .int .i64 lo, .int .i64 100, .int .i64 hi], val := v, born := n }]).run Try.prog w = .ok (some (0, v)) w := by
  rcases h with ⟨rfl, rfl⟩ | ⟨rfl, rfl⟩
  · exact fkA v n w
  · exact fkB v n w
theorem lookP0 (a b c d : Int) (M : Nat) (w : World) (hM : w.heap[M]? = some (.map #[] 0)) : (Instr.lookup 249 (.map (some M)) (.agg #[.int .i64 a, .int .i64 b, .int .i64 c, .int .i64 d]) false).run Try.prog w = .ok (.slice none 0 0) w := by
  simp [Instr.lookup, MapKept.run_getObj_map hM, ckP, fk0, Result.andThen]
theorem lookP1 {lo hi : Int} (h : Sided lo hi) (v : Value) (M clk : Nat) (w : World) (hM : w.heap[M]? = some (.map (oneP lo hi v) clk)) : (Instr.lookup 249 (.map (some M)) (.agg #[.int .i64 100, .int .i64 lo, .int .i64 100, .int .i64 hi]) false).run Try.prog w = .ok v w := by
  simp [Instr.lookup, MapKept.run_getObj_map hM, oneP, ckP, fk1 h, Result.andThen]
theorem entryP (lo hi : Int) (M : Nat) (w : World) (hM : w.heap[M]? = some (.map #[] 0)) : (Instr.mapEntry 249 (.map (some M)) (.agg #[.int .i64 100, .int .i64 lo, .int .i64 100, .int .i64 hi])).run Try.prog w = .ok (.tuple #[.slice none 0 0, .int .i64 0]) (w.putObj M (.map (oneP lo hi (.slice none 0 0)) 1)) := by
  simp [Instr.mapEntry, MapKept.run_getObj_map hM, ckP, fk0, Result.andThen, MapKept.run_setObj_map _ hM, goInt, World.putObj, oneP]
theorem storeP (lo hi : Int) (v0 v : Value) (M : Nat) (w : World) (hM : w.heap[M]? = some (.map (oneP lo hi v0) 1)) : (Instr.entryStore 249 (.map (some M)) (.int .i64 0) v).run Try.prog w = .ok () (w.putObj M (.map (oneP lo hi v) 1)) := by
  simp [Instr.entryStore, MapKept.run_getObj_map hM, asInt, asIntOf, MapKept.run_setObj_map _ hM, Result.andThen, oneP, World.putObj]
theorem makeP (w : World) : (Instr.makeMap 249 none).run Try.prog w = .ok (.map (some w.heap.size)) (w.alloc (.map #[] 0)) := by kernel_rfl

/-! ### appending the first element -/
section
variable {P : Program} {ops : Array Oper} {rest : List Oper} {o : Oper} {a : Act} {Q : Exit → Act → World → Prop}
theorem wpList_append_first (w : World) (hgd : o.guard = none) (s x : Operand) (t : TypeId)
    (ho : o.op = .call { callee := .builtin .append, args := #[s, x], argTypes := #[t, t] })
    (e : TypeId) (z : Value) (size bytes : Nat) (ht : P.underlying t = some (.slice e)) (hi : (P.info? e).map (fun i => (i.zero, i.size, i.bytes)) = some (some z, size, bytes))
    (hzs : z.cells.size = size) (hsz : 0 < size) (hs : a.eval s = .slice none 0 0) (ad : Addr) (c : Nat) (news : List Value) (hx : a.eval x = .slice (some ad) 1 c) (hl : news.length = 1 * size)
    (hnews : ∀ j u, news[j]? = some u → w.cell? (ad.add j) = some u) (h1 : ∀ u ∈ news, u.oneCell' = true) (hbytes : 1 * bytes ≤ 140737488355328) (H : Nat) (hH : w.heap.size = H)
    (h : ∀ cap w', 1 ≤ cap → w'.ownsRow H e size (.slice (some ⟨H, 0, none⟩) 1 cap) 1 news → Below H w w' → H < w'.heap.size → wpList P ops Q rest (a.put o.dst (.slice (some ⟨H, 0, none⟩) 1 cap)) w') : wpList P ops Q (o :: rest) a w := by
  obtain ⟨i, h2, h3, h4, h5⟩ := info_parts hi
  refine wpList_append_lies w hgd s x t ho H e i z size bytes ht h2 h3 h4 h5 hzs hsz (.slice none 0 0) 0 [] hs (World.ownsRow_nil _ _ _ _) ad 1 c news hx hl hnews h1 (by omega) (by unfold maxLen; omega) (by simpa using hbytes) (by omega) H hH ?_
  intro g cap w' hown hg hat hlt
  obtain rfl : g = H := by simpa [Value.ownBlock] using hat
  have hb : Below g w w' := ⟨hg.os, hg.tape, hg.output, hg.size, fun k hk => hg.block k (by omega) (by simp [Value.ownBlock])⟩
  have hc : 1 ≤ cap := by
    rcases hown.2 with ⟨h, -⟩ | ⟨g', cap', cur, h, -, -, h6, -⟩
    · cases h
    · cases h
      omega
  exact h cap w' hc (by simpa using hown) hb hlt
theorem wpListIn_append_first {F : Fence} {n : Nat} (w : World) (hgd : o.guard = none) (s x : Operand) (t : TypeId)
    (ho : o.op = .call { callee := .builtin .append, args := #[s, x], argTypes := #[t, t] })
    (e : TypeId) (z : Value) (size bytes : Nat) (ht : P.underlying t = some (.slice e)) (hi : (P.info? e).map (fun i => (i.zero, i.size, i.bytes)) = some (some z, size, bytes))
    (hzs : z.cells.size = size) (hsz : 0 < size) (hs : a.eval s = .slice none 0 0) (ad : Addr) (c : Nat) (news : List Value) (hx : a.eval x = .slice (some ad) 1 c) (hl : news.length = 1 * size)
    (hnews : ∀ j u, news[j]? = some u → w.cell? (ad.add j) = some u) (h1 : ∀ u ∈ news, u.oneCell' = true) (hbytes : 1 * bytes ≤ 140737488355328) (H : Nat) (hH : w.heap.size = H)
    (h : ∀ cap w', 1 ≤ cap → w'.ownsRow H e size (.slice (some ⟨H, 0, none⟩) 1 cap) 1 news → Below H w w' → H < w'.heap.size → wpListIn F n P ops Q rest (a.put o.dst (.slice (some ⟨H, 0, none⟩) 1 cap)) w') : wpListIn F n P ops Q (o :: rest) a w := by
  obtain ⟨i, h2, h3, h4, h5⟩ := info_parts hi
  refine wpListIn_plain hgd fun K hK => ?_
  obtain ⟨g, cap, w', hr, hown, hg, hat, hlt⟩ := run_append_lies (P := P) w t o.type H e i z size bytes ht h2 h3 h4 h5 hzs hsz (.slice none 0 0) 0 [] (World.ownsRow_nil _ _ _ _) ad 1 c news hl hnews h1 (by omega) (by unfold maxLen; omega) (by simpa using hbytes) (by omega) H hH
  obtain rfl : g = H := by simpa [Value.ownBlock] using hat
  have hb : Below g w w' := ⟨hg.os, hg.tape, hg.output, hg.size, fun k hk => hg.block k (by omega) (by simp [Value.ownBlock])⟩
  have hc : 1 ≤ cap := by
    rcases hown.2 with ⟨h, -⟩ | ⟨g', cap', cur, h, -, -, h6, -⟩
    · cases h
    · cases h
      omega
  unfold Oper.wpIn
  refine ⟨?_, ?_⟩
  · simp [Oper.about, ho, resolve, Target.leads, Sem.run_pure]
  · rw [Oper.semAt_plain F _ _ (by rw [ho]; intro c hc'; cases hc')]
    simp only [execOp, ho, resolve, invoke, builtin, Sem.run_bind, Sem.run_pure, Result.andThen_ok, List.map_toArray, List.map_cons, List.map_nil, hs, hx, hr]
    exact hK _ _ (h cap w' hc (by simpa using hown) hb hlt)
end
/-! ### a loop over a function of one value, moved to a slot -/
section
variable {F : Fence}
theorem wpIn_rangeFunc_one {n : Nat} {P : Program} {α : Type} {g : Operand} {p d : Tmp} {assign body : Code} {Q : Exit → Act → World → Prop} {a : Act} {w : World}
    (hro : F.round = none) (h1 : 1 ≤ n) {gf : Nat} {lb : Array Value} (hg : a.eval g = .func (.func gf) #[] lb) (hFg : F.fn gf) (eg : ∀ args w, (callFunc gf args).run P w = .ok (.enter gf args) w)
    {e1 : α → Value} {Kp : World → World → Prop} {S Sp : List α → Prop} {N : Nat} {w0 : World} (hseq : SeqStopsK F (n - 1) P gf lb (fun x => #[e1 x]) Kp S Sp N w0)
    (hKr : ∀ A : World, Kp A A) (hKt : ∀ {A B C : World}, Kp A B → Kp B C → Kp A C) (hKb : ∀ (W : World) (l : Nat) (o o' : Obj), w.heap.size ≤ l → W.heap[l]? = some o → o.isCells = false → o.isWalk = false → Kp W (W.putObj l o')) (hb0 : Below w0.heap.size w0 w)
    (I : List α → World → Prop) (Ix : Code → List α → World → Prop) (hI : OwnFrom w.heap.size I) (hIx : ∀ c, OwnFrom w.heap.size (Ix c)) (h0 : I [] w)
    (hassign : ∀ (l : Nat) (x : α) (W : World) (K : Act → World → Prop), K { tmps := (a.tmps.setIfInBounds p (e1 x)).setIfInBounds d (e1 x), defers := [] } W →
      assign.wpIn (F.inRound l) (n - 1 - 1) P (Exit.then K (fun _ _ _ => False)) { tmps := a.tmps.setIfInBounds p (e1 x), defers := [] } W)
    (hbody : ∀ (l : Nat) (pre : List α) (x : α) (W : World), w.heap.size ≤ l → (∃ r, W.heap[l]? = some (.loop r)) → I pre W → pre.length < N →
      body.wpIn (F.inRound l) (n - 1 - 1) P (ownPostG w.heap.size Kp I Ix (pre ++ [x]) W) { tmps := (a.tmps.setIfInBounds p (e1 x)).setIfInBounds d (e1 x), defers := [] } W)
    (hdone : ∀ (D : Nat) (xs : List α) (W : World), w.heap.size ≤ D → S xs → I xs W → W.heap[D]? = some (.deferred (some [])) → Q .normal { a with defers := { target := .collected D, args := #[] } :: a.defers } W)
    (hstop : ∀ (D : Nat) (c : Code) (pre : List α) (W : World), w.heap.size ≤ D → Sp pre → Ix c pre W → W.heap[D]? = some (.deferred (some [])) → c.wpIn F n P Q { a with defers := { target := .collected D, args := #[] } :: a.defers } W) :
    (Code.rangeFunc g #[p] assign body).wpIn F n P Q a w := by
  refine wpIn_rangeFunc_ownH (encs := fun x => #[e1 x]) hro h1 hg hFg eg hseq hKt hKb hb0 (fun _ => rfl) I Ix hI hIx h0
    (fun x a' _ => a' = { tmps := (a.tmps.setIfInBounds p (e1 x)).setIfInBounds d (e1 x), defers := [] })
    (fun x a' _ X Y row hs hg hr => hs) ?_ ?_ hdone hstop
  · intro l pre x W K hi hK
    have := hassign l x W K (hK _ W (KeepsFrom.refl _ _) (hKr _) hi rfl)
    simpa using this
  · rintro l pre x a' W hl hr hi rfl hlt
    exact hbody l pre x W hl hr hi hlt
end
/-! ### blocks -/
/-- a block holds an object -/
def HasO (w : World) (b : Nat) (o : Obj) : Prop := w.heap[b]? = some o
theorem HasO.lt {w : World} {b : Nat} {o : Obj} (h : HasO w b o) : b < w.heap.size := (Array.getElem?_eq_some_iff.1 h).1
theorem HasO.below {w w' : World} {b : Nat} {o : Obj} (h : HasO w b o) (hb : Below w.heap.size w w') : HasO w' b o := (hb.block b h.lt).trans h
theorem HasO.alloc {w : World} {b : Nat} {o : Obj} (h : HasO w b o) (o' : Obj) : HasO (w.alloc o') b o := h.below ((Below.refl _ _).alloc (Nat.le_refl _) _)
theorem HasO.xm {w w' : World} {b M : Nat} {o : Obj} (h : HasO w b o) (hx : Xm M w w') (hne : b ≠ M) : HasO w' b o := (hx.block b h.lt hne).trans h
theorem HasO.cell {w : World} {b i : Nat} {cs : Array Value} {t : TypeId} {f : Nat × Nat} {v : Value} (h : HasO w b (.cells cs t f)) (hi : cs[i]? = some v) : w.cell? ⟨b, i, none⟩ = some v := by
  have h' : w.heap[b]? = some (.cells cs t f) := h
  simp [World.cell?, h', hi]
theorem HasO.frozen {w : World} {b i : Nat} {cs : Array Value} {t : TypeId} (h : HasO w b (.cells cs t (0, 0))) : w.frozen? ⟨b, i, none⟩ = false := by
  have h' : w.heap[b]? = some (.cells cs t (0, 0)) := h
  simp [World.frozen?, h']
theorem HasO.new {w w' : World} {o : Obj} (h : w.alloc o = w') : HasO w' w.heap.size o := by
  subst h
  exact heap_alloc_new w _
theorem Xm.put {M : Nat} (w : World) (o : Obj) : Xm M w (w.putObj M o) := ⟨rfl, rfl, rfl, by simp [World.putObj], fun _ _ hn => World.putObj_heap_other hn⟩
theorem Xm.set {M i : Nat} (w : World) (v : Value) : Xm M w (w.setCell ⟨M, i, none⟩ v) := ⟨rfl, rfl, rfl, by simp [World.setCell], fun k _ hn => by
  simp only [World.setCell]
  rw [Array.getElem?_modify, if_neg (fun e => hn e.symm)]⟩
theorem HasO.put {w : World} {b : Nat} {o o' : Obj} (h : HasO w b o) : HasO (w.putObj b o') b o' := World.putObj_heap_same h.lt
theorem HasO.set {w : World} {b i : Nat} {cs : Array Value} {t : TypeId} {f : Nat × Nat} {v : Value} (h : HasO w b (.cells cs t f)) : HasO (w.setCell ⟨b, i, none⟩ v) b (.cells (cs.setIfInBounds i v) t f) := by
  have h' : w.heap[b]? = some (.cells cs t f) := h
  show (w.setCell ⟨b, i, none⟩ v).heap[b]? = _
  simp [World.setCell, h', Array.getElem?_modify]
/-- a list lies as it lay where a row that is no row of cells was written -/
theorem Lst.grownX {α : Type} {k : Nat} {enc : α → List Value} (he : ∀ x, ∃ u, (enc x)[0]? = some u) {w w' : World} {v : Value} {l : List α} {row : Option Nat} (h : Lst k enc w v l) (hg : w.grownBy w' row) (hr : ∀ r, row = some r → ∃ o : Obj, w.heap[r]? = some o ∧ o.isCells = false) : Lst k enc w' v l := by
  obtain ⟨A, c, e, h1, h2, h3⟩ := h
  refine ⟨A, c, e, h1, h2, fun h0 => ?_⟩
  obtain ⟨b, off, rfl, hb, hc⟩ := h3 h0
  have hne : some b ≠ row := fun e => by
    obtain ⟨o, ho, hn⟩ := hr b e.symm
    obtain ⟨x, hx⟩ : ∃ x, l[0]? = some x := ⟨_, List.getElem?_eq_getElem h0⟩
    obtain ⟨u, hu⟩ := he x
    have k := hc 0 0 x u hx hu
    simp only [World.cell?, ho] at k
    cases o <;> first | (simp at k; done) | (cases hn; done)
  exact ⟨b, off, rfl, Nat.lt_of_lt_of_le hb hg.size, fun j i x u hj hu => (World.cell?_of_block (hg.block b hb hne)).trans (hc j i x u hj hu)⟩
theorem HasO.grownX {w w' : World} {b : Nat} {cs : Array Value} {t : TypeId} {f : Nat × Nat} {row : Option Nat} (h : HasO w b (.cells cs t f)) (hg : w.grownBy w' row) (hr : ∀ r, row = some r → ∃ o : Obj, w.heap[r]? = some o ∧ o.isCells = false) : HasO w' b (.cells cs t f) := by
  refine (hg.block b h.lt (fun e => ?_)).trans h
  obtain ⟨o, ho, hn⟩ := hr b e.symm
  have h' : w.heap[b]? = some (.cells cs t f) := h
  rw [h'] at ho
  cases ho
  cases hn
theorem Xm.grownX {M : Nat} {w w1 w2 : World} {row : Option Nat} (h : Xm M w w1) (hg : w1.grownBy w2 row) (hr : ∀ r, row = some r → w.heap.size ≤ r) : Xm M w w2 :=
  ⟨hg.os.trans h.os, hg.tape.trans h.tape, hg.output.trans h.output, Nat.le_trans h.size hg.size, fun k hk hn => (hg.block k (Nat.lt_of_lt_of_le hk h.size) (fun e => by have := hr k e.symm; omega)).trans (h.block k hk hn)⟩
/-- what a round of a loop over a chunk must keep, where it turned one block that is no list of cells or number -/
theorem keepOne {n₀ M B : Nat} {W W' : World} {cs : Array Value} {t : TypeId} {f : Nat × Nat} (h : Xm M W W') (hM : HasO W M (.cells cs t f)) (ht : t ≠ 36 ∧ t ≠ 3) (hn : n₀ ≤ M) : KeepsFrom B W W' ∧ KpC n₀ W W' := by
  have h' : W.heap[M]? = some (.cells cs t f) := hM
  refine ⟨⟨h.size, fun k o _ hk ho => ?_⟩, h.below hn (Nat.le_of_lt (Nat.lt_of_le_of_lt hn hM.lt)), fun k c t' f' ht' hk => ?_⟩
  · refine (h.block k (Array.getElem?_eq_some_iff.1 hk).1 (fun e => ?_)).trans hk
    subst e
    rw [h'] at hk
    cases hk
    cases ho
  · refine (h.block k (Array.getElem?_eq_some_iff.1 hk).1 (fun e => ?_)).trans hk
    subst e
    rw [h'] at hk
    cases hk
    rcases ht' with e | e
    · exact ht.1 e
    · exact ht.2 e
theorem eqNilC (w : World) : (Go.binOp BinOp.eql 36 (.slice none 0 0) (.slice none 0 0)).run Try.prog w = .ok (.bool true) w := by kernel_rfl
/-- values lie at the head of a block -/
def RowAt (w : World) (b : Nat) (vs : List Value) : Prop := b < w.heap.size ∧ ∀ j u, vs[j]? = some u → w.cell? ⟨b, j, none⟩ = some u
theorem RowAt.below {w w' : World} {b : Nat} {vs : List Value} (h : RowAt w b vs) (hb : Below w.heap.size w w') : RowAt w' b vs := ⟨Nat.lt_of_lt_of_le h.1 hb.size, fun j u e => (hb.cell h.1).trans (h.2 j u e)⟩
theorem RowAt.xm {w w' : World} {b M : Nat} {vs : List Value} (h : RowAt w b vs) (hx : Xm M w w') (hne : b ≠ M) : RowAt w' b vs := ⟨Nat.lt_of_lt_of_le h.1 hx.size, fun j u e => hx.cell h.1 hne (h.2 j u e)⟩
theorem RowAt.own {w : World} {base : Nat} {e : TypeId} {size g cap : Nat} {xs : List Value} (h : w.ownsRow base e size (.slice (some ⟨g, 0, none⟩) 1 cap) 1 xs) : RowAt w g xs := by
  refine ⟨(h.lt g rfl).2, fun j u e => ?_⟩
  have hj : j < 1 * size := by rw [← h.1]; exact (List.getElem?_eq_some_iff.1 e).1
  exact (h.cellAt j hj).trans e
/-- a list of cells is not kept in the block of a map -/
theorem Lst.xmMap {α : Type} {k : Nat} {enc : α → List Value} (he : ∀ x, ∃ u, (enc x)[0]? = some u) {M clk : Nat} {es : Array MapEntry} {w w' : World} {v : Value} {l : List α} (h : Lst k enc w v l) (hM : HasO w M (.map es clk)) (hx : Xm M w w') : Lst k enc w' v l := by
  obtain ⟨A, c, e, h1, h2, h3⟩ := h
  refine ⟨A, c, e, h1, h2, fun h0 => ?_⟩
  obtain ⟨b, off, rfl, hb, hc⟩ := h3 h0
  have hne : b ≠ M := fun e => by
    subst e
    obtain ⟨x, hx⟩ : ∃ x, l[0]? = some x := ⟨_, List.getElem?_eq_getElem h0⟩
    obtain ⟨u, hu⟩ := he x
    have k := hc 0 0 x u hx hu
    have hM' : w.heap[b]? = some (.map es clk) := hM
    simp [World.cell?, hM'] at k
  exact ⟨b, off, rfl, Nat.lt_of_lt_of_le hb hx.size, fun j i x u hj hu => hx.cell hb hne (hc j i x u hj hu)⟩
/-- what lay in a world lies as it lay -/
def Fix (w0 w : World) : Prop := Below w0.heap.size w0 w
theorem Fix.below {w0 w w' : World} (h : Fix w0 w) (k : Below w.heap.size w w') : Fix w0 w' := Below.trans h (k.mono (Below.size h))
theorem RowAt.lstC {w : World} {b c : Nat} {x y : Int} (h : RowAt w b [.int .i64 x, .int .i64 y]) (hc : 1 ≤ c) (hm : c ≤ maxLen) : Lst 2 encC w (.slice (some ⟨b, 0, none⟩) 1 c) [(x, y)] := by
  refine ⟨some ⟨b, 0, none⟩, c, rfl, hc, hm, fun _ => ⟨b, 0, rfl, h.1, fun j i z u hj hu => ?_⟩⟩
  match j, hj with
  | 0, hj =>
    simp only [List.getElem?_cons_zero, Option.some.injEq] at hj
    subst hj
    have := h.2 i u hu
    simpa using this
/-- a list of runs is not kept in a block of one cell -/
theorem Runs.xmOne {M : Nat} {u : Value} {t : TypeId} {f : Nat × Nat} {w w' : World} {v : Value} {l : List R3} (h : Runs w v l) (hM : HasO w M (.cells #[u] t f)) (hx : Xm M w w') : Runs w' v l := by
  obtain ⟨A, c, e, h1, h2, h3⟩ := h
  refine ⟨A, c, e, h1, h2, fun h0 => ?_⟩
  obtain ⟨b, off, rfl, hb, hc⟩ := h3 h0
  have hne : b ≠ M := fun e => by
    subst e
    obtain ⟨x, hx⟩ : ∃ x, l[0]? = some x := ⟨_, List.getElem?_eq_getElem h0⟩
    have k := hc 0 1 x (.int .i64 x.2.1) hx rfl
    have hM' : w.heap[b]? = some (.cells #[u] t f) := hM
    simp [World.cell?, hM'] at k
  exact ⟨b, off, rfl, Nat.lt_of_lt_of_le hb hx.size, fun j i x u hj hu => hx.cell hb hne (hc j i x u hj hu)⟩
/-- a list of cells is not kept in a block that holds none -/
theorem Lst.xmNC {α : Type} {k : Nat} {enc : α → List Value} (he : ∀ x, ∃ u, (enc x)[0]? = some u) {M : Nat} {o : Obj} {w w' : World} {v : Value} {l : List α} (h : Lst k enc w v l) (hM : HasO w M o) (ho : o.isCells = false) (hx : Xm M w w') : Lst k enc w' v l := by
  obtain ⟨A, c, e, h1, h2, h3⟩ := h
  refine ⟨A, c, e, h1, h2, fun h0 => ?_⟩
  obtain ⟨b, off, rfl, hb, hc⟩ := h3 h0
  have hne : b ≠ M := fun e => by
    subst e
    obtain ⟨x, hx⟩ : ∃ x, l[0]? = some x := ⟨_, List.getElem?_eq_getElem h0⟩
    obtain ⟨u, hu⟩ := he x
    have k := hc 0 0 x u hx hu
    have hM' : w.heap[b]? = some o := hM
    simp only [World.cell?, hM'] at k
    cases o <;> first | (simp at k; done) | (cases ho; done)
  exact ⟨b, off, rfl, Nat.lt_of_lt_of_le hb hx.size, fun j i x u hj hu => hx.cell hb hne (hc j i x u hj hu)⟩
theorem HasO.ne_cell {w : World} {M : Nat} {o : Obj} (hM : HasO w M o) (ho : o.isCells = false) {b i : Nat} {v : Value} (hc : w.cell? ⟨b, i, none⟩ = some v) : b ≠ M := fun e => by
  subst e
  have hM' : w.heap[b]? = some o := hM
  simp only [World.cell?, hM'] at hc
  cases o <;> first | (simp at hc; done) | (cases ho; done)
end Go.Proofs.Ytnbdnnbeiohmgaa
