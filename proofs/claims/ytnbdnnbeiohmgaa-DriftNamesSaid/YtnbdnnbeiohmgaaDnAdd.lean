/- drift: set.add. -/
import Derived.Test.YtnbdnnbeiohmgaaDnH
import Derived.Test.YtnbdnnbeiohmgaaGrCellsC
import Derived.Test.YtnbdnnbeiohmgaaMapA
namespace Go.Proofs.Ytnbdnnbeiohmgaa
open Go.RowKit Go.Shelf Go.Lib Go.Maps
attribute [local go_sem] Oper.semAt_some

/-- nothing that was there has changed but block M -/
structure Xm (M : Nat) (w w' : World) : Prop where
  os : w'.os = w.os
  tape : w'.tape = w.tape
  output : w'.output = w.output
  size : w.heap.size ≤ w'.heap.size
  block : ∀ k, k < w.heap.size → k ≠ M → w'.heap[k]? = w.heap[k]?
theorem Xm.refl (M : Nat) (w : World) : Xm M w w := ⟨rfl, rfl, rfl, Nat.le_refl _, fun _ _ _ => rfl⟩
theorem Xm.trans {M : Nat} {w w1 w2 : World} (h : Xm M w w1) (k : Xm M w1 w2) : Xm M w w2 :=
  ⟨k.os.trans h.os, k.tape.trans h.tape, k.output.trans h.output, Nat.le_trans h.size k.size, fun b hb hn => (k.block b (Nat.lt_of_lt_of_le hb h.size) hn).trans (h.block b hb hn)⟩
theorem Xm.of {M : Nat} {w w' : World} (h : Below w.heap.size w w') : Xm M w w' := ⟨h.os, h.tape, h.output, h.size, fun b hb _ => h.block b hb⟩
theorem Xm.below {M B : Nat} {w w' : World} (h : Xm M w w') (hM : B ≤ M) (hB : B ≤ w.heap.size) : Below B w w' := ⟨h.os, h.tape, h.output, h.size, fun b hb => h.block b (by omega) (by omega)⟩
theorem Xm.grown {M : Nat} {w w' : World} {o : Obj} (hg : (w.alloc o).grownBy w' (some M)) : Xm M w w' :=
  have b := (Below.refl w.heap.size w).alloc (Nat.le_refl _) o
  ⟨hg.os.trans b.os, hg.tape.trans b.tape, hg.output.trans b.output, Nat.le_trans b.size hg.size, fun k hk hn => (hg.block k (Nat.lt_of_lt_of_le hk b.size) (fun e => hn (Option.some.inj e))).trans (b.block k hk)⟩
theorem Xm.cell {M : Nat} {w w' : World} (h : Xm M w w') {b i : Nat} {v : Value} (hb : b < w.heap.size) (hn : b ≠ M) (hc : w.cell? ⟨b, i, none⟩ = some v) : w'.cell? ⟨b, i, none⟩ = some v := by
  have := h.block b hb hn
  simp only [World.cell?, this]
  simpa only [World.cell?] using hc
/-- a list of cells is not kept in the block of a map -/
theorem Xm.lst {α : Type} {k : Nat} {enc : α → List Value} (he : ∀ x, ∃ u, (enc x)[0]? = some u) {M n : Nat} {S : Int → Int → Bool} {w w' : World} {v : Value} {l : List α} (hS : SetT w M n S) (h : Lst k enc w v l) (hx : Xm M w w') : Lst k enc w' v l := by
  obtain ⟨A, c, e, h1, h2, h3⟩ := h
  refine ⟨A, c, e, h1, h2, fun h0 => ?_⟩
  obtain ⟨b, off, rfl, hb, hc⟩ := h3 h0
  have hne : b ≠ M := fun e => by
    subst e
    obtain ⟨x, hx⟩ : ∃ x, l[0]? = some x := ⟨_, List.getElem?_eq_getElem h0⟩
    obtain ⟨u, hu⟩ := he x
    have k := hc 0 0 x u hx hu
    obtain ⟨D, ⟨es, clock, hh, -⟩, -⟩ := hS
    simp [World.cell?, hh] at k
  exact ⟨b, off, rfl, Nat.lt_of_lt_of_le hb hx.size, fun j i x u hj hu => hx.cell hb hne (hc j i x u hj hu)⟩
theorem Xm.runs {M n : Nat} {S : Int → Int → Bool} {w w' : World} {v : Value} {l : List R3} (hS : SetT w M n S) (h : Runs w v l) (hx : Xm M w w') : Runs w' v l := Xm.lst (fun _x => ⟨_, rfl⟩) hS h hx
theorem SetT.size {w w' : World} {b n : Nat} {S : Int → Int → Bool} (h : SetT w b n S) (hb : Below w.heap.size w w') : SetT w' b n S := h.below hb h.lt
theorem setTy : Try.prog.underlying 210 = some (.map 39 4) := Try.underlying210
theorem wpList_update_setD (w : World) {ops : Array Oper} {rest : List Oper} {o : Oper} {a : Act} {Q : Exit → Act → World → Prop}
    (hg : o.guard = none) (m x v : Operand) (t : TypeId) (hop : o.op = Op.mapUpdate t m x v) (ht : Try.prog.underlying t = some (.map 39 4)) (b n : Nat) (S : Int → Int → Bool)
    (hm : a.eval m = .map (some b)) (hs : SetT w b n S) (hn : n < maxLen) (cx cy : Int) (hx : a.eval x = .agg #[.int .i64 cx, .int .i64 cy]) (hv : a.eval v = .bool true) (wx : isI64 cx) (wy : isI64 cy)
    (hK : ∀ w', SetT w' b (n + 1) (fun p q => if p = cx ∧ q = cy then true else S p q) → w.grownBy w' (some b) → wpList Try.prog ops Q rest (a.put o.dst undef) w') :
    wpList Try.prog ops Q (o :: rest) a w := by
  obtain ⟨D, h1, h2⟩ := hs
  exact wpList_mapUpdate_own w hg m x v t hop 39 4 lawC ht _ b n D hm h1 hn _ _ (cellK cx cy) hx hv (keyOfC wx wy) _ [] (plainElem_bool Try.underlying4 true) fun w' hw' hg' => hK w' ⟨_, hw', h2.put h1.isMap wx wy⟩ hg'
/-- a set and the cells of a list -/
def Plus (S : Int → Int → Bool) (L : List (Int × Int)) : Int → Int → Bool := fun p q => S p q || decide ((p, q) ∈ L)

set_option maxRecDepth 100000 in
set_option maxHeartbeats 8000000 in
theorem add_dn (L A : Option Addr) (lc n c M N : Nat) (S : Int → Int → Bool) (l : List R3) (w : World) (hL : Runs w (.slice L 5 lc) landB) (hv : Runs w (.slice A n c) l) (hM : SetT w M N S) (hok : checkRs 5 5 100 landB [l] = true) (hN : N + (cellsL l).length ≤ 1000000) (hin : ∀ z, z ∈ cellsL l → isI64 z.1 ∧ isI64 z.2) :
    Calls Try.prog 139 #[.map (some M), .agg #[.int .i64 5, .int .i64 5, .int .i64 100, .slice L 5 lc], .slice A n c] w fun e w' => e = .returned (.tuple #[]) ∧ SetT w' M (N + (cellsL l).length) (Plus S (cellsL l)) ∧ Xm M w w' := by
  have b1 : Below w.heap.size w (w.alloc (.cells #[.int .i64 5, .int .i64 5, .int .i64 100, .slice L 5 lc] 24)) := (Below.refl _ _).alloc (Nat.le_refl _) _
  have hC := cells_gr 5 5 100 (.slice L 5 lc) (.slice A n c) landB l _ (hL.below b1) (hv.below b1)
  rw [hok, argE_true] at hC
  have HC := Lib.hid hC
  have HM := Lib.hid (hM.size b1)
  have HX := Lib.hid (Xm.of (M := M) b1)
  obtain ⟨CL, hCL⟩ : ∃ CL, cellsL l = CL := ⟨_, rfl⟩
  rw [hCL] at HC hN hin ⊢
  clear hC b1 hL hv hM hok hCL
  go_enter Try.func139, Try.ntmps139
  go_wp2_with fail
  refine HC.out.mono ?_
  rintro e w1 ⟨⟨v', rfl, hl⟩, hb1⟩
  rw [if_pos trivial] at hl
  obtain ⟨C, cc, rfl, -⟩ := id hl
  have HM1 := Lib.hid (HM.out.size hb1)
  have HX1 := Lib.hid (HX.out.trans (Xm.of hb1))
  have HL1 := Lib.hid hl
  obtain ⟨m, hm⟩ : ∃ m, CL.length = m := ⟨_, rfl⟩
  have HLm := Lib.hid hm
  rw [hm] at hN ⊢
  clear hl hb1 HM HX HC
  (try rw [hm])
  clear hm
  go_wp2_with fail
  go_loopw [18] (fun i wr => ∃ k : Nat, k ≤ m ∧ i = .int .i64 k ∧ SetT wr M (N + k) (Plus S (CL.take k)) ∧ Xm M w1 wr) (fun i _ => m - (intOf i).toNat)
  case atStart => exact ⟨0, by omega, rfl, HM1.out.ext (fun x y => by simp [Plus]), Xm.refl _ _⟩
  case round =>
    obtain ⟨k, hk, rfl, hS, hx⟩ := hrel
    by_cases hlt : k < m
    · have hkm : (k : Int) < (m : Int) := by omega
      obtain ⟨⟨cx, cy⟩, hc⟩ : ∃ z, CL[k]? = some z := ⟨_, List.getElem?_eq_getElem (by rw [HLm.out]; exact hlt)⟩
      have hci := hin _ (List.mem_of_getElem? hc)
      have hlr := Xm.lst (fun x => ⟨_, rfl⟩) HM1.out HL1.out hx
      obtain ⟨C', cc', e, -, -, h3⟩ := hlr
      obtain ⟨b, off, hCb, hb, hcs⟩ := h3 (by rw [HLm.out]; omega)
      obtain rfl : C = C' := (Value.slice.inj e).1
      subst hCb
      have m0 : wr.cell? ⟨b, off + k * 2, none⟩ = some (.int .i64 cx) := hcs k 0 _ _ hc rfl
      have m1 : wr.cell? ⟨b, off + k * 2 + 1, none⟩ = some (.int .i64 cy) := hcs k 1 _ _ hc rfl
      have ex : wrap64 ((k : Int) + 1) = (k : Int) + 1 := wrapId _ (by omega) (by omega)
      have hS' := hS.size ((Below.refl wr.heap.size wr).alloc (Nat.le_refl _) (.cells #[.int .i64 cx, .int .i64 cy] 39))
      have hml := hS.lt
      have HXr := Lib.hid hx
      have HCk := Lib.hid hc
      clear hx hcs h3 e hS hc
      go_wp2_with (at_mapUpdate; refine wpList_update_setD _ rfl _ _ _ 210 rfl setTy M (N + k) _ rfl hS' (by unfold maxLen; omega) cx cy rfl rfl hci.1 hci.2 ?_; intro w5 hS5 hg5)
      go_roundw
      case rel =>
        refine ⟨k + 1, by omega, by go_num, hS5.ext (fun p q => ?_), HXr.out.trans (Xm.grown hg5)⟩
        simp only [Plus]
        rw [List.take_add_one, HCk.out]
        by_cases e : p = cx ∧ q = cy
        · rw [if_pos e, e.1, e.2]
          simp
        · rw [if_neg e]
          have : (p, q) ∈ CL.take k ++ [(cx, cy)] ↔ (p, q) ∈ CL.take k := by
            simp only [List.mem_append, List.mem_singleton, Prod.mk.injEq]
            exact ⟨fun h => h.elim id (fun h => absurd h e), .inl⟩
          simp [this]
      case measure => simp [intOf]; omega
    · obtain rfl : k = m := by omega
      have hS' : SetT wr M (N + k) (Plus S CL) := by rw [List.take_of_length_le (by have := HLm.out; omega)] at hS; exact hS
      have HS := Lib.hid hS'
      have HXr := Lib.hid hx
      clear hS hS' hx
      go_wp2_with fail
      go_end0
      exact ⟨rfl, by rw [HLm.out]; exact HS.out, HX1.out.trans HXr.out⟩
end Go.Proofs.Ytnbdnnbeiohmgaa
