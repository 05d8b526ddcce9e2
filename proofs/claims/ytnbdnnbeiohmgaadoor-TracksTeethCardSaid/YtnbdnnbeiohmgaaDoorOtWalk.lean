/- tracks.Outline. -/
import Derived.Test.YtnbdnnbeiohmgaaDoorOtSet
import Derived.Test.YtnbdnnbeiohmgaaDoorOtPlain
import Derived.Test.YtnbdnnbeiohmgaaDoorOtConn
import Derived.Test.YtnbdnnbeiohmgaaDoorPtParts
import Derived.Test.YtnbdnnbeiohmgaaDoorGrCellsC
import Derived.Test.YtnbdnnbeiohmgaaDoorTkA
import Derived.StillTailTactics
import Derived.WalkMore
import Derived.Deep.RegionHeld3
import Derived.Sort.CutIn
namespace Go.Proofs.YtnbdnnbeiohmgaaDoor
open Go.RowKit Go.Maps Go.Shelf Go.Lib

/-- the error behind the walk -/
def endO (res : Option (List (Int × Int))) : Int := match res with | none => 3 | some _ => 0
/-- the table of corners, as the program keeps it -/
def Corners (w : World) : Prop := ∀ i, i < 4 → w.cell? ⟨2, i * 2, none⟩ = some (.int .i64 (corO i).1) ∧ w.cell? ⟨2, i * 2 + 1, none⟩ = some (.int .i64 (corO i).2)
theorem Corners.lt {w : World} (h : Corners w) : 2 < w.heap.size := World.block_lt_of_cell? w _ (h 0 (by omega)).1
theorem Corners.below {w w' : World} (h : Corners w) (hb : Below w.heap.size w w') : Corners w' := fun i hi => ⟨(hb.cell (p := ⟨2, i * 2, none⟩) h.lt).trans (h i hi).1, (hb.cell (p := ⟨2, i * 2 + 1, none⟩) h.lt).trans (h i hi).2⟩
/-- the table of directions, as the program keeps it -/
def SidesO (w : World) : Prop := ∀ i, i < 4 → w.cell? ⟨0, i * 2, none⟩ = some (.int .i64 (dirO i).1) ∧ w.cell? ⟨0, i * 2 + 1, none⟩ = some (.int .i64 (dirO i).2)
theorem SidesO.lt {w : World} (h : SidesO w) : 0 < w.heap.size := World.block_lt_of_cell? w _ (h 0 (by omega)).1
theorem SidesO.below {w w' : World} (h : SidesO w) (hb : Below w.heap.size w w') : SidesO w' := fun i hi => ⟨(hb.cell (p := ⟨0, i * 2, none⟩) h.lt).trans (h i hi).1, (hb.cell (p := ⟨0, i * 2 + 1, none⟩) h.lt).trans (h i hi).2⟩

/-- a box of a spot -/
def Boxed2 (w : World) (b : Nat) (x y : Int) : Prop := w.heap[b]? = some (.cells #[.int .i64 x, .int .i64 y] 23 (0, 0))
theorem SetS.of_block {w w' : World} {b n : Nat} {S : Int → Int → Bool} (h : SetS w b n S) (hb : w'.heap[b]? = w.heap[b]?) : SetS w' b n S := by
  obtain ⟨D, ⟨es, clock, hh, F, hs, hD⟩, h2⟩ := h
  exact ⟨D, ⟨es, clock, hb.trans hh, F, hs, hD⟩, h2⟩
theorem belowDrewO {n : Nat} {a b : World} (h : Below n a b) : Below n a b.drew := ⟨h.os, h.tape, h.output, h.size, h.block⟩
theorem size_allocO (w : World) (o : Obj) : (w.alloc o).heap.size = w.heap.size + 1 := by simp
theorem SetS.noCell {w : World} {b n : Nat} {S : Int → Int → Bool} (h : SetS w b n S) {o : Nat} {v : Value} (e : w.cell? ⟨b, o, none⟩ = some v) : False := by
  obtain ⟨D, h1, -⟩ := h
  obtain ⟨es, it, k, -⟩ := h1
  simp [World.cell?, k] at e

theorem Boxed2.set {w : World} {b : Nat} {x y : Int} (h : Boxed2 w b x y) (x' y' : Int) : Boxed2 ((w.setCell ⟨b, 0, none⟩ (.int .i64 x')).setCell ⟨b, 1, none⟩ (.int .i64 y')) b x' y' := by
  have h1 := heap_setCell_same w b 0 _ _ (.int .i64 x') h
  exact heap_setCell_same _ b 1 _ _ (.int .i64 y') h1
theorem Boxed2.cells {w : World} {b : Nat} {x y : Int} (h : Boxed2 w b x y) : w.cell? ⟨b, 0, none⟩ = some (.int .i64 x) ∧ w.cell? ⟨b, 1, none⟩ = some (.int .i64 y) := by
  have h : w.heap[b]? = _ := h
  exact ⟨by simp [World.cell?, h], by simp [World.cell?, h]⟩
theorem Xt.setCell {F : Nat → Prop} {w w1 : World} (h : Xt F w w1) {a : Addr} (ha : F a.block ∨ w.heap.size ≤ a.block) (u : Value) : Xt F w (w1.setCell a u) :=
  ⟨h.os, h.tape, h.output, by simpa using h.size, fun k hk hf => (Below.heap_setCell _ _ _ _ (fun e => by subst e; exact ha.elim hf (fun h => by omega))).trans (h.block k hk hf)⟩
theorem Xt.drew {F : Nat → Prop} {w w1 : World} (h : Xt F w w1) : Xt F w w1.drew := ⟨h.os, h.tape, h.output, h.size, h.block⟩
theorem eql_spot (a b c d : Int) (w : World) : (binOp .eql 23 (.agg #[.int .i64 a, .int .i64 b]) (.agg #[.int .i64 c, .int .i64 d])).run Tryd.prog w = .ok (.bool (decide (a = c ∧ b = d)))  w := by
  have hS : Tryd.prog.underlying 23 = some (.struct (Tryd.prog.fieldsOf 23)) := by kernel_rfl
  have hp : Tryd.prog.stoodInHeld 23 = false := by kernel_rfl
  have a3 := Tryd.isAgg3
  have z3 := Tryd.sizeOf3
  have u3 := Tryd.underlying3
  rw [run_eql_struct, show (10000 : Nat) = 9999 + 1 from rfl, run_equalIn_agg w 9999 23 _ _ hS hp]
  simp only [Program.fieldsOf, Tryd.underlying23]
  by_cases h1 : a = c
  · by_cases h2 : b = d
    · subst h1; subst h2; go_simp
    · have : (b == d) = false := by simpa using h2
      subst h1
      go_simp
  · have : (a == c) = false := by simpa using h1
    go_simp
theorem eql_spot_to (a b c d : Int) (u : Bool) (h : decide (a = c ∧ b = d) = u) (w : World) : (binOp .eql 23 (.agg #[.int .i64 a, .int .i64 b]) (.agg #[.int .i64 c, .int .i64 d])).run Tryd.prog w = .ok (.bool u) w := by
  rw [eql_spot, h]
theorem infoSpotO : (Tryd.prog.info? 23).map (fun i => (i.zero, i.size, i.bytes)) = some (some (.agg #[.int .i64 0, .int .i64 0]), 2, 16) := by kernel_rfl
theorem wpList_lookup_setSu (w : World) {ops : Array Oper} {rest : List Oper} {o : Oper} {a : Act} {Q : Exit → Act → World → Prop}
    (hg : o.guard = none) (m x : Operand) (t : TypeId) (hop : o.op = Op.lookup t m x false) (ht : Tryd.prog.underlying t = some (.map 23 4)) (b n : Nat) (S : Int → Int → Bool)
    (hm : a.eval m = .map (some b)) (hs : SetS w b n S) (cx cy : Int) (u : Bool) (hu : S cx cy = u) (hx : a.eval x = .agg #[.int .i64 cx, .int .i64 cy]) (wx : isI64 cx) (wy : isI64 cy)
    (hK : wpList Tryd.prog ops Q rest (a.put o.dst (.bool u)) w) :
    wpList Tryd.prog ops Q (o :: rest) a w := wpList_lookup_setS w hg m x t hop ht b n S hm hs cx cy hx wx wy (by rw [hu]; exact hK)
theorem Spots_of_lst {w : World} {v : Value} {l : List (Int × Int)} (h : Lst 2 encC w v l) : Spots w v l := by
  obtain ⟨A, c, e, h1, h2, h3⟩ := h
  refine ⟨A, c, e, h1, h2, fun h0 => ?_⟩
  obtain ⟨b, off, e', hb, hc⟩ := h3 h0
  exact ⟨b, off, e', hb, fun k s hk => ⟨hc k 0 s _ hk rfl, hc k 1 s _ hk rfl⟩⟩
theorem shifted_to {X Y cx cy A C : Int} (eX : shW X cx 1 = A) (eY : shW Y cy 1 = C) (w : World) : Calls Tryd.prog 23 #[.agg #[.int .i64 X, .int .i64 Y], .agg #[.int .i64 cx, .int .i64 cy], .int .i64 1] w fun e w' =>
    e = .returned (.agg #[.int .i64 A, .int .i64 C]) ∧ Below w.heap.size w w' := by
  rw [← eX, ← eY]
  exact shifted_tk X Y cx cy 1 w
theorem outO_one {St : Int → Int → Bool} {S fx fy x y dx dy X Y : Int} {k q : Nat} {out : List (Int × Int)} {res : Option (List (Int × Int))} (h : outO St S fx fy k x y q out = some res) (hd : dirO q = (dx, dy)) (hX : x + dx = X) (hY : y + dy = Y) :
    ∃ k', (match turnO St X Y q with
      | none => outO St S fx fy k' X Y q out
      | some w' => if out.length = 1024 then some none else if X = fx ∧ Y = fy then some (some (out ++ [(X * S, Y * S)])) else outO St S fx fy k' X Y w' (out ++ [(X * S, Y * S)])) = some res := by
  cases k with
  | zero => simp [outO] at h
  | succ k =>
    rw [outO, hd] at h
    dsimp only at h
    rw [hX, hY] at h
    exact ⟨k, h⟩
theorem farO_small {W H x y : Int} (hW : W ≤ 256) (hH : H ≤ 256) (hx : 0 ≤ x ∧ x ≤ W) (hy : 0 ≤ y ∧ y ≤ H) {w : Nat} (h : w < 4) : farO W H x y w < 1000 := by
  have : w = 0 ∨ w = 1 ∨ w = 2 ∨ w = 3 := by omega
  rcases this with rfl | rfl | rfl | rfl <;> (simp only [farO, dirO, corO]; omega)

/-- the walk's state: at a corner, in a direction, with so many spots -/
structure OtI (we wr : World) (F0 : Nat) (S : Int) (St : Int → Int → Bool) (fx fy : Int) (res : Option (List (Int × Int))) (x y : Int) (q : Nat) (v : Value) (out : List (Int × Int)) : Prop where
  own : wr.ownsRow (F0 + 1 + 1) 23 2 v out.length (flatE encC out)
  box : Boxed2 wr (F0 + 1) x y
  xt : Xt (fun b => b = F0 + 1) we wr
  lt : q < 4
  land : landO St x y q = true
  len : 1 ≤ out.length ∧ out.length ≤ 1024
  run : ∃ k, outO St S fx fy k x y q out = some res
theorem land_left {St : Int → Int → Bool} {x y dx dy X Y : Int} {q : Nat} (h : landO St x y q = true) (h4 : q < 4) (hd : dirO q = (dx, dy)) (hX : x + dx = X) (hY : y + dy = Y) : landO St X Y ((q + 1) % 4) = true := by
  have : q = 0 ∨ q = 1 ∨ q = 2 ∨ q = 3 := by omega
  rcases this with rfl | rfl | rfl | rfl <;> (simp only [dirO, Prod.mk.injEq] at hd; obtain ⟨rfl, rfl⟩ := hd; subst hX; subst hY; simp only [landO, corO] at h ⊢)
  · rwa [show x + 1 + -1 = x + 0 by omega, show y + 0 + 0 = y + 0 by omega]
  · rwa [show x + 0 + -1 = x + -1 by omega, show y + 1 + -1 = y + 0 by omega]
  · rwa [show x + -1 + 0 = x + -1 by omega, show y + 0 + -1 = y + -1 by omega]
  · rwa [show x + 0 + 0 = x + 0 by omega, show y + -1 + 0 = y + -1 by omega]
def lenV : Value → Nat
  | .slice _ n _ => n
  | _ => 0
def cellI (w : World) (b o : Nat) : Int := match w.cell? ⟨b, o, none⟩ with
  | some (.int _ i) => i
  | _ => 0

theorem Boxed2.cI {w : World} {b : Nat} {x y : Int} (h : Boxed2 w b x y) : cellI w b 0 = x ∧ cellI w b 1 = y := by
  unfold cellI
  rw [h.cells.1, h.cells.2]
  exact ⟨rfl, rfl⟩
theorem flat_snoc (out : List (Int × Int)) (a b : Int) : flatE encC out ++ [.int .i64 a, .int .i64 b] = flatE encC (out ++ [(a, b)]) := by simp [flatE, encC]

set_option maxRecDepth 100000 in
set_option maxHeartbeats 8000000 in
theorem outline_tk (W H S : Int) (vL vR : Value) (ld : List R3) (y0 x0 t0 : Int) (r : List R3) (w : World) (hs : SidesO w) (hc : Corners w) (hL : Runs w vL ld) (hR : Runs w vR ((y0, x0, t0) :: r)) (hok : checkRs W H S ld [(y0, x0, t0) :: r] = true) (hn : (cellsL ((y0, x0, t0) :: r)).length ≤ 8192) (hWH : W * H ≤ 8192)
    (h0 : x0 < t0) (hone : (partsL (cellsL ((y0, x0, t0) :: r))).length = 1) (k : Nat) (res : Option (List (Int × Int))) (hk : outO (inC (cellsL ((y0, x0, t0) :: r))) S x0 y0 k x0 y0 0 [(x0 * S, y0 * S)] = some res) :
    Calls Tryd.prog 11 #[.agg #[.int .i64 W, .int .i64 H, .int .i64 S, vL], vR] w fun e w' =>
      (∃ v', e = .returned (.tuple #[v', .int .i64 (endO res)]) ∧ Spots w' v' (res.getD [])) ∧ Below w.heap.size w w' := by
  obtain ⟨R, hRe⟩ : ∃ R, (y0, x0, t0) :: r = R := ⟨_, rfl⟩
  rw [hRe] at hR hok hn hone hk
  have hmm := @run_makeMap Tryd.prog
  have b1 : Below w.heap.size w (w.alloc (.cells #[.int .i64 W, .int .i64 H, .int .i64 S, vL] 37)) := (Below.refl _ _).alloc (Nat.le_refl _) _
  have hp := parts_gr W H S vL vR ld R _ (hL.below b1) (hR.below b1) hok hn hWH
  obtain ⟨A, cap, rfl, -⟩ := id hR
  have HP := Lib.hid hp
  have HRd := Lib.hid hR
  have HLd := Lib.hid hL
  have HOK := Lib.hid hok
  have HK := Lib.hid hk
  have HS := Lib.hid hs
  have HC := Lib.hid hc
  have HB1 := Lib.hid b1
  clear hp hR hL hok hk hs hc b1
  go_enter Tryd.func11, Tryd.ntmps11
  go_wp2_with fail
  go_step3
  go_wp2_with fail
  refine HP.out.mono ?_
  rintro e w2 ⟨v1, us, rfl, hv1, hus, -, hb2⟩
  obtain ⟨A1, c1, rfl, -⟩ := hv1
  rw [hone] at hus
  rw [hus]
  have b2 := HB1.out.trans (hb2.mono (by simp))
  have g2 := hb2.block w.heap.size (by simp)
  rw [heap_alloc_new] at g2
  have s2 := hb2.size
  simp at s2
  clear hb2 HP HB1
  obtain ⟨B, hB⟩ : ∃ B, w.heap.size = B := ⟨_, rfl⟩
  go_upto_region 5 with fail
  obtain ⟨w3, hw3⟩ : ∃ w', w2.alloc (.map #[] 0) = w' := ⟨_, rfl⟩
  have hS3 : SetS w3 w2.heap.size 0 fun _ _ => false := by rw [← hw3]; exact SetS.made w2
  have b23 : Below w2.heap.size w2 w3 := by rw [← hw3]; exact (Below.refl _ _).alloc (Nat.le_refl _) _
  have s3 : w3.heap.size = w2.heap.size + 1 := by rw [← hw3]; simp
  obtain ⟨M, hM⟩ : ∃ M, w2.heap.size = M := ⟨_, rfl⟩
  rw [hw3]
  rw [hB] at b2 g2 s2
  rw [hM] at hS3 b23 s3 s2
  have b3 : Below B w w3 := b2.trans (b23.mono (by omega))
  have g3 := (b23.block B (by omega)).trans g2
  have q0 : w3.cell? ⟨B, 0, none⟩ = some (.int .i64 W) := by simp [World.cell?, g3]
  have q1 : w3.cell? ⟨B, 1, none⟩ = some (.int .i64 H) := by simp [World.cell?, g3]
  have q2 : w3.cell? ⟨B, 2, none⟩ = some (.int .i64 S) := by simp [World.cell?, g3]
  have q3 : w3.cell? ⟨B, 3, none⟩ = some vL := by simp [World.cell?, g3]
  rw [hM]
  clear hw3 b2 b23 g2
  have b3' : Below w.heap.size w w3 := by rw [hB]; exact b3
  have hce := cells_gr W H S vL (.slice A R.length cap) ld R w3 (HLd.out.below b3') (HRd.out.below b3')
  rw [HOK.out, if_pos rfl, argE_true] at hce
  have HCE := Lib.hid hce
  clear hce b3'
  go_wp2_with fail
  refine HCE.out.mono ?_
  rintro e w4 ⟨⟨v4, rfl, hv4⟩, hb4⟩
  obtain ⟨A4, c4, rfl, hl4, hm4, ha4⟩ := hv4
  have g4 := (hb4.block B (by omega)).trans g3
  have hS4 : SetS w4 M 0 fun _ _ => false := hS3.below hb4
  have b4 : Below B w w4 := b3.trans (hb4.mono (by omega))
  have s4 := hb4.size
  clear q0 q1 q2 q3 hb4 b3 g3 hS3 HCE hm4
  go_wp2_with fail
  obtain ⟨n, hnl⟩ : ∃ n, (cellsL R).length = n := ⟨_, rfl⟩
  rw [hnl] at hn ⊢
  have hP : ∀ c ∈ cellsL R, PtP W H c := by
    have hK := HOK.out
    simp only [checkRs, List.all_cons, List.all_nil, Bool.and_true, Bool.and_eq_true] at hK
    have hrB := hK.2
    simp only [rightB, Bool.and_eq_true, decide_eq_true_eq] at hrB
    have hrows := right_rows hrB.1
    intro c hc
    obtain ⟨z, hz, hc⟩ := List.mem_flatMap.1 hc
    obtain ⟨j, hj, rfl⟩ := List.mem_map.1 hc
    have h1 := hrows z hz
    have hj := List.mem_range.1 hj
    dsimp only [PtP]
    omega
  have hGs : (1 ≤ W ∧ W ≤ 256) ∧ (1 ≤ H ∧ H ≤ 256) ∧ (1 ≤ S ∧ S ≤ 50000) := by
    have hK := HOK.out
    simp only [checkRs, Bool.and_eq_true] at hK
    obtain ⟨h1, h2, h3, -⟩ := checkG_iff hK.1
    exact ⟨h1, h2, h3⟩
  have HG := Lib.hid hGs
  clear hGs
  go_loopw [39] (fun i wr => ∃ j : Nat, j ≤ n ∧ i = .int .i64 j ∧ SetS wr M j (inC ((cellsL R).take j)) ∧ Xt (fun b => b = M) w4 wr)
    (fun i _ => n - (intOf i).toNat)
  case atStart => exact ⟨0, Nat.zero_le _, rfl, hS4.ext (fun p q => by simp [inC]), Xt.refl _ _⟩
  case round =>
    obtain ⟨j, hj, rfl, hSj, hX⟩ := hrel
    by_cases hlt : j < n
    · obtain ⟨⟨x, y⟩, hxy⟩ : ∃ c, (cellsL R)[j]? = some c := ⟨_, List.getElem?_eq_getElem (by omega)⟩
      obtain ⟨b, off, rfl, hb, hcs⟩ := ha4 (by omega)
      have c0 := hcs j 0 _ _ hxy rfl
      have c1 := hcs j 1 _ _ hxy rfl
      have hbM : b ≠ M := fun e => by subst e; exact hS4.noCell c0
      have c0 : wr.cell? ⟨b, off + j * 2, none⟩ = some (.int .i64 x) := (hX.cell (a := ⟨b, off + j * 2, none⟩) hb hbM).trans c0
      have c1 : wr.cell? ⟨b, off + j * 2 + 1, none⟩ = some (.int .i64 y) := (hX.cell (a := ⟨b, off + j * 2 + 1, none⟩) hb hbM).trans c1
      have hxP := hP _ (List.mem_of_getElem? hxy)
      dsimp only [PtP] at hxP
      have hg := HG.out
      have hjm : j < maxLen := by unfold maxLen; omega
      have hkk : ((j : Int) < n) = True := by simp only [eq_iff_iff, iff_true]; omega
      have hSa := hSj.alloc (.cells #[.int .i64 x, .int .i64 y] 77)
      have ix : isI64 x := isI64_of (by omega)
      have iy : isI64 y := isI64_of (by omega)
      clear hg
      go_wp2_with (at_mapUpdate; go_loud (refine wpList_update_setS _ rfl _ _ _ _ rfl Tryd.underlying73 M j _ rfl hSa hjm x y true rfl rfl ix iy ?_); intro w5 hS5 hg5)
      go_roundw
      case rel =>
        refine ⟨j + 1, by omega, by go_num, hS5.ext (fun p q => ?_), ((hX.grown (World.grownBy_alloc wr _ none) (fun r e => by cases e)).grown hg5 (fun r e => .inl (Option.some.inj e).symm))⟩
        rw [List.take_add_one, hxy]
        simp only [Option.toList_some]
        rw [← inC_snoc]
      case measure => simp [intOf]; omega
    · obtain rfl : j = n := by omega
      rw [List.take_of_length_le (by omega)] at hSj
      have hkk : ((j : Int) < j) = False := by simp
      obtain ⟨bR, offR, rfl, hbR, hcR⟩ : ∃ b off, A = some ⟨b, off, none⟩ ∧ b < w.heap.size ∧ (w.cell? ⟨b, off, none⟩ = some (.int .i64 y0) ∧ w.cell? ⟨b, off + 1, none⟩ = some (.int .i64 x0)) := by
        obtain ⟨A', c', e, -, -, h3⟩ := HRd.out
        cases e
        obtain ⟨b, off, e, hb, hcs⟩ := h3 (by rw [← hRe]; simp)
        subst hRe
        exact ⟨b, off, e, hb, by simpa using hcs 0 0 _ _ rfl rfl, by simpa using hcs 0 1 _ _ rfl rfl⟩
      have br : Below B w wr := hX.below b4 (by omega) (fun b hb => by omega)
      have g4' := (hX.block B (by omega) (by omega)).trans g4
      rw [hB] at hbR
      have d0 := (br.cell (p := ⟨bR, offR, none⟩) hbR).trans hcR.1
      have d1 := (br.cell (p := ⟨bR, offR + 1, none⟩) hbR).trans hcR.2
      have sX := hX.size
      clear hcR hX b4 g4 hS4
      have hRl : 0 < R.length := by rw [← hRe]; simp
      have hRl2 : (0 : Int) < R.length := by omega
      go_upto_region 11 with fail
      have hbRl : bR < wr.heap.size := by have := br.size; omega
      go_region_held3 (fun W' => W'.cell? ⟨bR, offR, none⟩ = some (.int .i64 y0) ∧ W'.cell? ⟨bR, offR + 1, none⟩ = some (.int .i64 x0))
        (first | exact ⟨d0, d1⟩ | exact ⟨(World.cell?_alloc_lt wr _ ⟨bR, offR, none⟩ hbRl).trans d0, (World.cell?_alloc_lt wr _ ⟨bR, offR + 1, none⟩ hbRl).trans d1⟩)
        (first | fail)
      rename_i hHeld
      clear hHeld d0 d1
      obtain ⟨F0, hF0⟩ : ∃ F0, wr.heap.size = F0 := ⟨_, rfl⟩
      obtain ⟨wd, hwd⟩ : ∃ w', (wr.alloc (.cells #[.int .i64 x0, .int .i64 y0] 23)).drew = w' := ⟨_, rfl⟩
      have bwd : Below wr.heap.size wr wd := by rw [← hwd]; exact belowDrewO ((Below.refl _ _).alloc (Nat.le_refl _) _)
      have eF : Boxed2 wd F0 x0 y0 := by rw [← hwd, ← hF0]; exact heap_alloc_new wr _
      have sd : wd.heap.size = F0 + 1 := by rw [← hwd, ← hF0]; exact size_allocO wr _
      rw [hwd, hF0]
      rw [hF0] at bwd sX hbRl
      clear hwd
      have hSd := hSj.of_block (bwd.block M (by rw [← hF0]; exact hSj.lt))
      have gd := (bwd.block B (by omega)).trans g4'
      have bd : Below B w wd := br.trans (bwd.mono (by omega))
      clear hSj g4' br bwd
      have q2 : wd.cell? ⟨B, 2, none⟩ = some (.int .i64 S) := by simp [World.cell?, gd]
      have p0 : wd.cell? ⟨F0, 0, none⟩ = some (.int .i64 x0) := by simp [World.cell?, show wd.heap[F0]? = _ from eF]
      have p1 : wd.cell? ⟨F0, 1, none⟩ = some (.int .i64 y0) := by simp [World.cell?, show wd.heap[F0]? = _ from eF]
      go_upto_region 13 with fail
      obtain ⟨we, hwe⟩ : ∃ w', wd.alloc (.cells #[.int .i64 x0, .int .i64 y0] 23) = w' := ⟨_, rfl⟩
      have bwe : Below wd.heap.size wd we := by rw [← hwe]; exact (Below.refl _ _).alloc (Nat.le_refl _) _
      have eA : Boxed2 we (F0 + 1) x0 y0 := by rw [← hwe, ← sd]; exact heap_alloc_new wd _
      have se : we.heap.size = F0 + 1 + 1 := by rw [← hwe, size_allocO, sd]
      rw [hwe]
      rw [sd] at bwe
      clear hwe
      have eF : Boxed2 we F0 x0 y0 := (bwe.block F0 (by omega)).trans eF
      have p0 := (bwe.cell (p := ⟨F0, 0, none⟩) (by show F0 < _; omega)).trans p0
      have p1 := (bwe.cell (p := ⟨F0, 1, none⟩) (by show F0 < _; omega)).trans p1
      have q2 := (bwe.cell (p := ⟨B, 2, none⟩) (by show B < _; omega)).trans q2
      have hSe := hSd.of_block (bwe.block M (by have := hSd.lt; omega))
      have ge := (bwe.block B (by omega)).trans gd
      have be : Below B w we := bd.trans (bwe.mono (by omega))
      clear hSd gd bd bwe
      go_wp2_with fail
      go_step3
      have hg := HG.out
      have hm0 : (x0, y0) ∈ cellsL R := List.mem_flatMap.2 ⟨(y0, x0, t0), by rw [← hRe]; simp, List.mem_map.2 ⟨0, List.mem_range.2 (by dsimp only; omega), by simp⟩⟩
      have hx0 := hP (x0, y0) hm0
      dsimp only [PtP] at hx0
      have ex : wrap64 (x0 * S) = x0 * S := by
        have := Int.mul_le_mul (a := x0) (c := 256) (b := S) (d := 50000) (by omega) (by omega) (by omega) (by omega)
        have := Int.mul_nonneg (a := x0) (b := S) (by omega) (by omega)
        exact wrapId _ (by omega) (by omega)
      have ey : wrap64 (y0 * S) = y0 * S := by
        have := Int.mul_le_mul (a := y0) (c := 256) (b := S) (d := 50000) (by omega) (by omega) (by omega) (by omega)
        have := Int.mul_nonneg (a := y0) (b := S) (by omega) (by omega)
        exact wrapId _ (by omega) (by omega)
      rw [ex, ey]
      have hown0 : (we.alloc (.cells #[.int .i64 (x0 * S), .int .i64 (y0 * S)] 23)).ownsRow (F0 + 1 + 1) 23 2 (.slice (some ⟨F0 + 1 + 1, 0, none⟩) 1 1) 1 (flatE encC [(x0 * S, y0 * S)]) := by
        have := World.ownsRow_lit (base := F0 + 1 + 1) (e := 23) (size := 2) we #[.int .i64 (x0 * S), .int .i64 (y0 * S)] 1 (by omega) (by simp [maxLen]) rfl
        rw [se] at this
        exact this
      go_wp2_with fail
      go_loopw [15, 16] (fun i v wr => ∃ (x y : Int) (q : Nat) (out : List (Int × Int)), i = .int .i64 q ∧ OtI we wr F0 S (inC (cellsL R)) x0 y0 res x y q v out)
        (fun i v wr => (1024 - lenV v) * 1000 + farO W H (cellI wr (F0 + 1) 0) (cellI wr (F0 + 1) 1) (intOf i).toNat)
      case atStart =>
        refine ⟨x0, y0, 0, [(x0 * S, y0 * S)], rfl, hown0, ?_, ?_, by omega, ?_, by simp, k, HK.out⟩
        · exact (Below.heap_alloc we _ (F0 + 1) (by omega)).trans eA
        · exact (Xt.refl _ we).thenBelow ((Below.refl _ _).alloc (Nat.le_refl _) _) (Nat.le_refl _)
        · simp only [landO, corO, inC, Int.add_zero]
          exact decide_eq_true hm0
      case round =>
        obtain ⟨x, y, q, out, rfl, hI⟩ := hrel
        obtain ⟨own, box, xt, lt, land, len, k', run⟩ := hI
        obtain ⟨A6, c6, rfl⟩ := rowSlice own
        have HCI := Lib.hid box.cI
        have brr : Below B w wr := xt.below be (by omega) (fun b hb => by omega)
        have hB0 : 2 < B := by have := HC.out.lt; omega
        have hgd : ∀ p q, inC (cellsL R) p q = true → (0 ≤ p ∧ p < W) ∧ 0 ≤ q ∧ q < H := fun p q h => hP (p, q) (by simpa [inC] using h)
        have hxy := hgd _ _ land
        obtain ⟨⟨dx, dy⟩, hd⟩ : ∃ d, dirO q = d := ⟨_, rfl⟩
        have g0 := (brr.cell (p := ⟨0, q * 2, none⟩) (by show 0 < B; omega)).trans (HS.out q lt).1
        have g1 := (brr.cell (p := ⟨0, q * 2 + 1, none⟩) (by show 0 < B; omega)).trans (HS.out q lt).2
        rw [hd] at g0 g1
        dsimp only at g0 g1
        have a0 : wr.cell? ⟨F0 + 1, 0, none⟩ = some (.int .i64 x) := by simp [World.cell?, show wr.heap[F0 + 1]? = _ from box]
        have a1 : wr.cell? ⟨F0 + 1, 1, none⟩ = some (.int .i64 y) := by simp [World.cell?, show wr.heap[F0 + 1]? = _ from box]
        have hq0 : (0 : Int) ≤ (q : Int) := by omega
        have hq4 : (q : Int) < 4 := by omega
        go_upto_region 14 with fail
        go_still_tail 4, (by kernel_rfl)
        change wpList _ _ _ _ _ wr.drew
        have ownd := own.drew
        have boxd : Boxed2 wr.drew (F0 + 1) x y := box
        have xtd : Xt (fun b => b = F0 + 1) we wr.drew := ⟨xt.os, xt.tape, xt.output, xt.size, xt.block⟩
        generalize wr.drew = w6 at ownd boxd xtd ⊢
        clear own box xt brr a0 a1 g0 g1
        go_wp2_with fail
        refine (shifted_tk x y dx dy 1 _).mono ?_
        rintro e w7 ⟨rfl, b7⟩
        have hdir : (-1 ≤ dx ∧ dx ≤ 1) ∧ -1 ≤ dy ∧ dy ≤ 1 := by
          have : q = 0 ∨ q = 1 ∨ q = 2 ∨ q = 3 := by omega
          rcases this with rfl | rfl | rfl | rfl <;> (simp only [dirO, Prod.mk.injEq] at hd; omega)
        have hxb : (0 ≤ x ∧ x ≤ W) ∧ 0 ≤ y ∧ y ≤ H := by
          have : q = 0 ∨ q = 1 ∨ q = 2 ∨ q = 3 := by omega
          rcases this with rfl | rfl | rfl | rfl <;> (simp only [corO] at hxy; omega)
        have eX : shW x dx 1 = x + dx := by
          unfold shW
          rw [Int.mul_one, wrapId dx (by omega) (by omega)]
          exact wrapId _ (by omega) (by omega)
        have eY : shW y dy 1 = y + dy := by
          unfold shW
          rw [Int.mul_one, wrapId dy (by omega) (by omega)]
          exact wrapId _ (by omega) (by omega)
        rw [eX, eY]
        have s6 := xtd.size
        have own7 := ownsBelow ownd b7
        have box7 : Boxed2 w7 (F0 + 1) x y := (b7.block (F0 + 1) (by omega)).trans boxd
        have xt7 := xtd.thenBelow b7 s6
        have a0 : w7.cell? ⟨F0 + 1, 0, none⟩ = some (.int .i64 x) := by simp [World.cell?, show w7.heap[F0 + 1]? = _ from box7]
        have a1 : w7.cell? ⟨F0 + 1, 1, none⟩ = some (.int .i64 y) := by simp [World.cell?, show w7.heap[F0 + 1]? = _ from box7]
        have f0 : w7.frozen? ⟨F0 + 1, 0, none⟩ = false := by simp [World.frozen?, show w7.heap[F0 + 1]? = _ from box7]
        have f1 : w7.frozen? ⟨F0 + 1, 1, none⟩ = false := by simp [World.frozen?, show w7.heap[F0 + 1]? = _ from box7]
        clear ownd boxd xtd b7
        go_upto_region 15 with fail
        obtain ⟨X, hX⟩ : ∃ X, x + dx = X := ⟨_, rfl⟩
        obtain ⟨Y, hY⟩ : ∃ Y, y + dy = Y := ⟨_, rfl⟩
        rw [hX, hY]
        have hXb : (0 ≤ X ∧ X ≤ W) ∧ 0 ≤ Y ∧ Y ≤ H := by
          have : q = 0 ∨ q = 1 ∨ q = 2 ∨ q = 3 := by omega
          rcases this with rfl | rfl | rfl | rfl <;> (simp only [dirO, corO, Prod.mk.injEq] at hd hxy; omega)
        obtain ⟨w8, hw8⟩ : ∃ w', (w7.setCell ⟨F0 + 1, 0, none⟩ (.int .i64 X)).setCell ⟨F0 + 1, 1, none⟩ (.int .i64 Y) = w' := ⟨_, rfl⟩
        have box8 : Boxed2 w8 (F0 + 1) X Y := by rw [← hw8]; exact box7.set _ _
        have own8 : w8.ownsRow (F0 + 1 + 1) 23 2 (.slice A6 out.length c6) out.length (flatE encC out) := by
          rw [← hw8]
          exact ownsSet (ownsSet own7 (by show F0 + 1 < _; omega) _) (by show F0 + 1 < _; omega) _
        have xt8 : Xt (fun b => b = F0 + 1) we w8 := by rw [← hw8]; exact (xt7.setCell (.inl rfl) _).setCell (.inl rfl) _
        rw [hw8]
        clear hw8 own7 box7 xt7 a0 a1 f0 f1
        obtain ⟨k2, run2⟩ := outO_one run hd hX hY
        have hless : landO (inC (cellsL R)) X Y q = true → farO W H X Y q < farO W H x y q := fun h => by
          have := farO_less (x := x) (y := y) hgd lt (by rw [hd, hX, hY]; exact h)
          rwa [hd, hX, hY] at this
        have HLess := Lib.hid hless
        have HLeft := Lib.hid (land_left land lt hd hX hY)
        have HRun := Lib.hid run2
        have HXY := Lib.hid (show x + dx = X ∧ y + dy = Y from ⟨hX, hY⟩)
        have hsmall := fun (q' : Nat) (h : q' < 4) => farO_small (W := W) (H := H) hg.1.2 hg.2.1.2 hXb.1 hXb.2 h
        have HSmall := Lib.hid hsmall
        clear hX hY run run2 hd hless hsmall
        obtain ⟨⟨cax, cay⟩, hca⟩ : ∃ d, corO q = d := ⟨_, rfl⟩
        have hcab : (-1 ≤ cax ∧ cax ≤ 0) ∧ -1 ≤ cay ∧ cay ≤ 0 := by
          have : q = 0 ∨ q = 1 ∨ q = 2 ∨ q = 3 := by omega
          rcases this with h | h | h | h <;> (rw [h] at hca; simp only [corO, Prod.mk.injEq] at hca; omega)
        have brr : Below B w w8 := xt8.below be (by omega) (fun b hb => by omega)
        have g0 := (brr.cell (p := ⟨2, q * 2, none⟩) (by show 2 < B; omega)).trans (HC.out q lt).1
        have g1 := (brr.cell (p := ⟨2, q * 2 + 1, none⟩) (by show 2 < B; omega)).trans (HC.out q lt).2
        rw [hca] at g0 g1
        dsimp only at g0 g1
        obtain ⟨Aa, hAa⟩ : ∃ a, X + cax = a := ⟨_, rfl⟩
        obtain ⟨Ca, hCa⟩ : ∃ a, Y + cay = a := ⟨_, rfl⟩
        have HSha := Lib.hid (fun w => shifted_to (X := X) (Y := Y) (cx := cax) (cy := cay) (A := Aa) (C := Ca) (by
          unfold shW
          rw [Int.mul_one, wrapId cax (by omega) (by omega), hAa]
          exact wrapId _ (by omega) (by omega)) (by
          unfold shW
          rw [Int.mul_one, wrapId cay (by omega) (by omega), hCa]
          exact wrapId _ (by omega) (by omega)) w)
        have ixa : isI64 Aa := isI64_of (by omega)
        have iya : isI64 Ca := isI64_of (by omega)
        have hS8 : SetS w8 M j (inC (cellsL R)) := hSe.of_block (xt8.block M (by omega) (by omega))
        obtain ⟨La, hLa⟩ : ∃ b, inC (cellsL R) Aa Ca = b := ⟨_, rfl⟩
        have hlanda : landO (inC (cellsL R)) X Y q = La := by
          unfold landO
          rw [hca]
          dsimp only
          rw [hAa, hCa]
          exact hLa
        have lk8 := hS8.look Tryd.underlying73 ixa iya
        rw [hLa] at lk8
        have S8 := And.intro box8.cells.1 (And.intro box8.cells.2 (And.intro g0 (And.intro g1 lk8)))
        have s8 := xt8.size
        have HSeta := Lib.hid (fun w' (hb : Below w8.heap.size w8 w') => by
          have hb2 : w'.heap[2]? = w8.heap[2]? := hb.block 2 (by omega)
          have h1 : Boxed2 w' (F0 + 1) X Y := (hb.block (F0 + 1) (by omega)).trans box8
          have h2 := (hS8.of_block (hb.block M (by omega))).look Tryd.underlying73 ixa iya
          rw [hLa] at h2
          exact And.intro h1.cells.1 (And.intro h1.cells.2 (And.intro ((World.cell?_of_block (a := ⟨2, q * 2, none⟩) hb2).trans g0) (And.intro ((World.cell?_of_block (a := ⟨2, q * 2 + 1, none⟩) hb2).trans g1) h2))))
        have S8d := HSeta.out _ (belowDrewO (Below.refl w8.heap.size w8))
        clear g0 g1 brr hS8 lk8 hca hLa hAa hCa
        go_region_held3 (fun W' => W'.cell? ⟨F0 + 1, 0, none⟩ = some (.int .i64 X) ∧ W'.cell? ⟨F0 + 1, 1, none⟩ = some (.int .i64 Y) ∧ W'.cell? ⟨2, q * 2, none⟩ = some (.int .i64 cax) ∧ W'.cell? ⟨2, q * 2 + 1, none⟩ = some (.int .i64 cay) ∧ (Instr.lookup 73 (.map (some M)) (.agg #[.int .i64 Aa, .int .i64 Ca]) false).run Tryd.prog W' = .ok (.bool La) W')
          (first | with_reducible exact S8 | with_reducible exact S8d | with_reducible exact HSeta.out _ hb10)
          (first | (go_at_call 23; (with_reducible refine (HSha.out _).mono ?_); rintro e w10 ⟨rfl, hba10⟩; have hb10 : Below w8.heap.size w8 w10 := ⟨hba10.os, hba10.tape, hba10.output, hba10.size, hba10.block⟩; clear hba10))
        rename_i hHeld
        clear hHeld S8 S8d HSha HSeta
        have own10 := ownsBelow own8 hb10
        have box10 : Boxed2 w10 (F0 + 1) X Y := (hb10.block (F0 + 1) (by omega)).trans box8
        have xt10 := xt8.thenBelow hb10 s8
        clear own8 box8 xt8 hb10 ixa iya
        cases La with
        | false =>
          have HT := Lib.hid (show turnO (inC (cellsL R)) X Y q = some ((q + 1) % 4) from by unfold turnO; rw [if_pos hlanda])
          have HLn := HLeft
          have hq1 : ((q + 1) % 4) < 4 := by omega
          obtain ⟨q1, hq1e⟩ : ∃ n, ((q + 1) % 4) = n := ⟨_, rfl⟩
          rw [hq1e] at HT hq1 HLn
          clear hlanda
          have eq1 : ((q : Int) + 1) % 4 = (q1 : Int) := by omega
          clear hq1e
          obtain ⟨k3, run3⟩ : ∃ k', (if out.length = 1024 then some none else if X = x0 ∧ Y = y0 then some (some (out ++ [(X * S, Y * S)])) else outO (inC (cellsL R)) S x0 y0 k' X Y q1 (out ++ [(X * S, Y * S)])) = some res := by
            have h := HRun.out
            rw [HT.out] at h
            exact ⟨_, h⟩
          have HR3 := Lib.hid run3
          clear run3 HRun
          have brz : Below B w w10 := xt10.below be (by omega) (fun b hb => by omega)
          have szo := xt10.size
          by_cases hfull : out.length = 1024
          · have f1 : ((out.length : Int) == 1024) = true := by simp [hfull]
            have hres : res = none := by
              have h := HR3.out
              rw [if_pos hfull] at h
              injection h with h
              exact h.symm
            subst hres
            go_wp2_with fail
            rw [Exit.noGoto_ret]
            refine bodyPost_ret (v := .tuple #[.slice none 0 0, .int .i64 3]) (by simp [results, Tryd.results11, go_sem]) rfl ⟨⟨.slice none 0 0, rfl, ?_⟩, by rw [hB]; exact brz⟩
            exact Spots_of_lst (Lst.nil _)
          · have f1 : ((out.length : Int) == 1024) = false := by simp; omega
            have a0 := box10.cells.1
            have a1 := box10.cells.2
            have q2z := (xt10.cell (a := ⟨B, 2, none⟩) (by show B < _; omega) (by show ¬ B = F0 + 1; omega)).trans q2
            have p0z := (xt10.cell (a := ⟨F0, 0, none⟩) (by show F0 < _; omega) (by show ¬ F0 = F0 + 1; omega)).trans p0
            have p1z := (xt10.cell (a := ⟨F0, 1, none⟩) (by show F0 < _; omega) (by show ¬ F0 = F0 + 1; omega)).trans p1
            have HFull := Lib.hid hfull
            clear hfull
            have exz : wrap64 (X * S) = X * S := by
              have := Int.mul_le_mul (a := X) (c := 256) (b := S) (d := 50000) (by omega) (by omega) (by omega) (by omega)
              have := Int.mul_nonneg (a := X) (b := S) (by omega) (by omega)
              exact wrapId _ (by omega) (by omega)
            have eyz : wrap64 (Y * S) = Y * S := by
              have := Int.mul_le_mul (a := Y) (c := 256) (b := S) (d := 50000) (by omega) (by omega) (by omega) (by omega)
              have := Int.mul_nonneg (a := Y) (b := S) (by omega) (by omega)
              exact wrapId _ (by omega) (by omega)
            obtain ⟨i0, hi, hz0, hz1, hz2⟩ := info_parts infoSpotO
            have ha0 : ∀ o : Obj, (w10.alloc o).cell? ⟨F0 + 1, 0, none⟩ = some (.int .i64 X) := fun o => (World.cell?_alloc_lt w10 o ⟨F0 + 1, 0, none⟩ (by show F0 + 1 < _; omega)).trans a0
            have hownz := own10.alloc (.cells #[.int .i64 (X * S), .int .i64 (Y * S)] 23)
            have hbal : ∀ o : Obj, Below w10.heap.size w10 (w10.alloc o) := fun o => (Below.refl _ _).alloc (Nat.le_refl _) o
            by_cases hfirst : X = x0 ∧ Y = y0
            · have heq := eql_spot_to X Y x0 y0 true (decide_eq_true hfirst)
              have HF := Lib.hid hfirst
              clear hfirst
              go_wp2_with (at_builtin; refine wpList_append_lies _ rfl _ _ _ rfl (F0 + 1 + 1) 23 i0 _ 2 16 Tryd.underlying27 hi hz0 hz1 hz2 rfl (by omega) (.slice A6 out.length c6) out.length (flatE encC out) rfl hownz ⟨w10.heap.size, 0, none⟩ 1 1 [.int .i64 (X * S), .int .i64 (Y * S)] rfl rfl (newsLit (cs := #[.int .i64 (X * S), .int .i64 (Y * S)]) (by simp)) (by simp [Value.oneCell']) (by omega) (by unfold maxLen; omega) (by omega) (by simp; omega) (w10.heap.size + 1) (by simp) ?_; intro gg cc wz ownz hgz hatz hltz; have xtz : Xt (fun b => b = F0 + 1) we wz := (xt10.thenBelow (hbal _) szo).grown hgz (fun r e => .inr (by have := (ownBlock_lt hownz e).1; omega)); have boxz : Boxed2 wz (F0 + 1) X Y := ((hgz.block (F0 + 1) (by simp; omega) (fun e => by have := (ownBlock_lt hownz e.symm).1; omega)).trans ((hbal _).block (F0 + 1) (by omega))).trans box10; have z0 := boxz.cells.1; have z1 := boxz.cells.2; have p0z := (xtz.cell (a := ⟨F0, 0, none⟩) (by show F0 < _; omega) (by show ¬ F0 = F0 + 1; omega)).trans p0; have p1z := (xtz.cell (a := ⟨F0, 1, none⟩) (by show F0 < _; omega) (by show ¬ F0 = F0 + 1; omega)).trans p1; have HO := Lib.hid ownz; have HX := Lib.hid xtz; have HB := Lib.hid boxz; clear hgz ownz xtz boxz hatz)
              rw [Exit.noGoto_ret]
              have hres : res = some (out ++ [(X * S, Y * S)]) := by
                have h := HR3.out
                rw [if_neg HFull.out, if_pos HF.out] at h
                injection h with h
                exact h.symm
              subst hres
              refine bodyPost_ret (v := .tuple #[.slice (some ⟨gg, 0, none⟩) (out.length + 1) cc, .int .i64 0]) (by simp [results, Tryd.results11, go_sem]) rfl ⟨⟨_, rfl, ?_⟩, ?_⟩
              · have h := HO.out
                rw [flat_snoc, show out.length + 1 = (out ++ [(X * S, Y * S)]).length by rw [List.length_append]; rfl] at h
                have h2 := Spots_of_lst (rowLst encC_len h)
                rw [List.length_append] at h2
                exact h2
              · rw [hB]
                exact HX.out.below be (by omega) (fun b hb => by omega)
            · have heq := eql_spot_to X Y x0 y0 false (decide_eq_false hfirst)
              have HF := Lib.hid hfirst
              clear hfirst
              go_wp2_with (at_builtin; refine wpList_append_lies _ rfl _ _ _ rfl (F0 + 1 + 1) 23 i0 _ 2 16 Tryd.underlying27 hi hz0 hz1 hz2 rfl (by omega) (.slice A6 out.length c6) out.length (flatE encC out) rfl hownz ⟨w10.heap.size, 0, none⟩ 1 1 [.int .i64 (X * S), .int .i64 (Y * S)] rfl rfl (newsLit (cs := #[.int .i64 (X * S), .int .i64 (Y * S)]) (by simp)) (by simp [Value.oneCell']) (by omega) (by unfold maxLen; omega) (by omega) (by simp; omega) (w10.heap.size + 1) (by simp) ?_; intro gg cc wz ownz hgz hatz hltz; have xtz : Xt (fun b => b = F0 + 1) we wz := (xt10.thenBelow (hbal _) szo).grown hgz (fun r e => .inr (by have := (ownBlock_lt hownz e).1; omega)); have boxz : Boxed2 wz (F0 + 1) X Y := ((hgz.block (F0 + 1) (by simp; omega) (fun e => by have := (ownBlock_lt hownz e.symm).1; omega)).trans ((hbal _).block (F0 + 1) (by omega))).trans box10; have z0 := boxz.cells.1; have z1 := boxz.cells.2; have p0z := (xtz.cell (a := ⟨F0, 0, none⟩) (by show F0 < _; omega) (by show ¬ F0 = F0 + 1; omega)).trans p0; have p1z := (xtz.cell (a := ⟨F0, 1, none⟩) (by show F0 < _; omega) (by show ¬ F0 = F0 + 1; omega)).trans p1; have HO := Lib.hid ownz; have HX := Lib.hid xtz; have HB := Lib.hid boxz; clear hgz ownz xtz boxz hatz)
              have hown := HO.out
              rw [flat_snoc] at hown
              have hrun : outO (inC (cellsL R)) S x0 y0 k3 X Y q1 (out ++ [(X * S, Y * S)]) = some res := by
                have h := HR3.out
                rwa [if_neg HFull.out, if_neg HF.out] at h
              refine ⟨⟨X, Y, q1, out ++ [(X * S, Y * S)], rfl, ⟨by rw [List.length_append]; exact hown, HB.out, HX.out, hq1, HLn.out, by have := HFull.out; simp; omega, ⟨k3, hrun⟩⟩⟩, ?_⟩
              rw [HB.out.cI.1, HB.out.cI.2, HCI.out.1, HCI.out.2]
              have h1 := HSmall.out q1 hq1
              have h2 := HFull.out
              simp only [lenV, intOf, Int.toNat_natCast]
              omega
        | true =>
          go_upto_region 17 with fail
          obtain ⟨q3, hq3e⟩ : ∃ n, (q + 3) % 4 = n := ⟨_, rfl⟩
          have hq3 : q3 < 4 := by omega
          have kw : IntKind.i64.wrap ((q : Int) + 3) = (q : Int) + 3 := wrapK _ (by omega) (by omega)
          have kt : ((q : Int) + 3).tmod 4 = (q3 : Int) := by rw [Int.tmod_eq_emod_of_nonneg (by omega)]; omega
          have kr : ((q : Int) + 3) % 4 = (q3 : Int) := by omega
          have k0 : (0 : Int) ≤ (q3 : Int) := by omega
          have k4 : (q3 : Int) < 4 := by omega
          obtain ⟨⟨cbx, cby⟩, hcb⟩ : ∃ d, corO q3 = d := ⟨_, rfl⟩
          have hcbb : (-1 ≤ cbx ∧ cbx ≤ 0) ∧ -1 ≤ cby ∧ cby ≤ 0 := by
            have : q3 = 0 ∨ q3 = 1 ∨ q3 = 2 ∨ q3 = 3 := by omega
            rcases this with h | h | h | h <;> (rw [h] at hcb; simp only [corO, Prod.mk.injEq] at hcb; omega)
          have brr : Below B w w10 := xt10.below be (by omega) (fun b hb => by omega)
          have g0 := (brr.cell (p := ⟨2, q3 * 2, none⟩) (by show 2 < B; omega)).trans (HC.out q3 hq3).1
          have g1 := (brr.cell (p := ⟨2, q3 * 2 + 1, none⟩) (by show 2 < B; omega)).trans (HC.out q3 hq3).2
          rw [hcb] at g0 g1
          dsimp only at g0 g1
          obtain ⟨Ab, hAb⟩ : ∃ a, X + cbx = a := ⟨_, rfl⟩
          obtain ⟨Cb, hCb⟩ : ∃ a, Y + cby = a := ⟨_, rfl⟩
          have HShb := Lib.hid (fun w => shifted_to (X := X) (Y := Y) (cx := cbx) (cy := cby) (A := Ab) (C := Cb) (by
            unfold shW
            rw [Int.mul_one, wrapId cbx (by omega) (by omega), hAb]
            exact wrapId _ (by omega) (by omega)) (by
            unfold shW
            rw [Int.mul_one, wrapId cby (by omega) (by omega), hCb]
            exact wrapId _ (by omega) (by omega)) w)
          have ixb : isI64 Ab := isI64_of (by omega)
          have iyb : isI64 Cb := isI64_of (by omega)
          have hS10 : SetS w10 M j (inC (cellsL R)) := hSe.of_block (xt10.block M (by omega) (by omega))
          obtain ⟨Lb, hLb⟩ : ∃ b, inC (cellsL R) Ab Cb = b := ⟨_, rfl⟩
          have hlandb : landO (inC (cellsL R)) X Y q3 = Lb := by
            unfold landO
            rw [hcb]
            dsimp only
            rw [hAb, hCb]
            exact hLb
          have lk10 := hS10.look Tryd.underlying73 ixb iyb
          rw [hLb] at lk10
          have S10 := And.intro box10.cells.1 (And.intro box10.cells.2 (And.intro g0 (And.intro g1 lk10)))
          have s10 := xt10.size
          have HSetb := Lib.hid (fun w' (hb : Below w10.heap.size w10 w') => by
            have hb2 : w'.heap[2]? = w10.heap[2]? := hb.block 2 (by omega)
            have h1 : Boxed2 w' (F0 + 1) X Y := (hb.block (F0 + 1) (by omega)).trans box10
            have h2 := (hS10.of_block (hb.block M (by omega))).look Tryd.underlying73 ixb iyb
            rw [hLb] at h2
            exact And.intro h1.cells.1 (And.intro h1.cells.2 (And.intro ((World.cell?_of_block (a := ⟨2, q3 * 2, none⟩) hb2).trans g0) (And.intro ((World.cell?_of_block (a := ⟨2, q3 * 2 + 1, none⟩) hb2).trans g1) h2))))
          have S10d := HSetb.out _ (belowDrewO (Below.refl w10.heap.size w10))
          clear g0 g1 brr hS10 lk10 hcb hLb hAb hCb
          go_region_held3 (fun W' => W'.cell? ⟨F0 + 1, 0, none⟩ = some (.int .i64 X) ∧ W'.cell? ⟨F0 + 1, 1, none⟩ = some (.int .i64 Y) ∧ W'.cell? ⟨2, q3 * 2, none⟩ = some (.int .i64 cbx) ∧ W'.cell? ⟨2, q3 * 2 + 1, none⟩ = some (.int .i64 cby) ∧ (Instr.lookup 73 (.map (some M)) (.agg #[.int .i64 Ab, .int .i64 Cb]) false).run Tryd.prog W' = .ok (.bool Lb) W')
            (first | with_reducible exact S10 | with_reducible exact S10d | with_reducible exact HSetb.out _ hb12)
            (first | (go_at_call 23; (with_reducible refine (HShb.out _).mono ?_); rintro e w12 ⟨rfl, hba12⟩; have hb12 : Below w10.heap.size w10 w12 := ⟨hba12.os, hba12.tape, hba12.output, hba12.size, hba12.block⟩; clear hba12))
          rename_i hHeld
          clear hHeld S10 S10d HShb HSetb
          have own12 := ownsBelow own10 hb12
          have box12 : Boxed2 w12 (F0 + 1) X Y := (hb12.block (F0 + 1) (by omega)).trans box10
          have xt12 := xt10.thenBelow hb12 s10
          clear own10 box10 xt10 hb12 ixb iyb
          cases Lb with
          | true =>
            have HT := Lib.hid (show turnO (inC (cellsL R)) X Y q = some ((q + 3) % 4) from by unfold turnO; rw [hq3e, if_neg (by rw [hlanda]; simp), if_pos hlandb])
            have hq1 : ((q + 3) % 4) < 4 := by omega
            obtain ⟨q1, hq1e⟩ : ∃ n, ((q + 3) % 4) = n := ⟨_, rfl⟩
            rw [hq1e] at HT hq1
            obtain rfl : q3 = q1 := by omega
            have HLn := Lib.hid hlandb
            clear hlanda hlandb hq3e hq1e
            obtain ⟨k3, run3⟩ : ∃ k', (if out.length = 1024 then some none else if X = x0 ∧ Y = y0 then some (some (out ++ [(X * S, Y * S)])) else outO (inC (cellsL R)) S x0 y0 k' X Y q3 (out ++ [(X * S, Y * S)])) = some res := by
              have h := HRun.out
              rw [HT.out] at h
              exact ⟨_, h⟩
            have HR3 := Lib.hid run3
            clear run3 HRun
            have brz : Below B w w12 := xt12.below be (by omega) (fun b hb => by omega)
            have szo := xt12.size
            by_cases hfull : out.length = 1024
            · have f1 : ((out.length : Int) == 1024) = true := by simp [hfull]
              have hres : res = none := by
                have h := HR3.out
                rw [if_pos hfull] at h
                injection h with h
                exact h.symm
              subst hres
              go_wp2_with fail
              rw [Exit.noGoto_ret]
              refine bodyPost_ret (v := .tuple #[.slice none 0 0, .int .i64 3]) (by simp [results, Tryd.results11, go_sem]) rfl ⟨⟨.slice none 0 0, rfl, ?_⟩, by rw [hB]; exact brz⟩
              exact Spots_of_lst (Lst.nil _)
            · have f1 : ((out.length : Int) == 1024) = false := by simp; omega
              have a0 := box12.cells.1
              have a1 := box12.cells.2
              have q2z := (xt12.cell (a := ⟨B, 2, none⟩) (by show B < _; omega) (by show ¬ B = F0 + 1; omega)).trans q2
              have p0z := (xt12.cell (a := ⟨F0, 0, none⟩) (by show F0 < _; omega) (by show ¬ F0 = F0 + 1; omega)).trans p0
              have p1z := (xt12.cell (a := ⟨F0, 1, none⟩) (by show F0 < _; omega) (by show ¬ F0 = F0 + 1; omega)).trans p1
              have HFull := Lib.hid hfull
              clear hfull
              have exz : wrap64 (X * S) = X * S := by
                have := Int.mul_le_mul (a := X) (c := 256) (b := S) (d := 50000) (by omega) (by omega) (by omega) (by omega)
                have := Int.mul_nonneg (a := X) (b := S) (by omega) (by omega)
                exact wrapId _ (by omega) (by omega)
              have eyz : wrap64 (Y * S) = Y * S := by
                have := Int.mul_le_mul (a := Y) (c := 256) (b := S) (d := 50000) (by omega) (by omega) (by omega) (by omega)
                have := Int.mul_nonneg (a := Y) (b := S) (by omega) (by omega)
                exact wrapId _ (by omega) (by omega)
              obtain ⟨i0, hi, hz0, hz1, hz2⟩ := info_parts infoSpotO
              have ha0 : ∀ o : Obj, (w12.alloc o).cell? ⟨F0 + 1, 0, none⟩ = some (.int .i64 X) := fun o => (World.cell?_alloc_lt w12 o ⟨F0 + 1, 0, none⟩ (by show F0 + 1 < _; omega)).trans a0
              have hownz := own12.alloc (.cells #[.int .i64 (X * S), .int .i64 (Y * S)] 23)
              have hbal : ∀ o : Obj, Below w12.heap.size w12 (w12.alloc o) := fun o => (Below.refl _ _).alloc (Nat.le_refl _) o
              by_cases hfirst : X = x0 ∧ Y = y0
              · have heq := eql_spot_to X Y x0 y0 true (decide_eq_true hfirst)
                have HF := Lib.hid hfirst
                clear hfirst
                go_wp2_with (at_builtin; refine wpList_append_lies _ rfl _ _ _ rfl (F0 + 1 + 1) 23 i0 _ 2 16 Tryd.underlying27 hi hz0 hz1 hz2 rfl (by omega) (.slice A6 out.length c6) out.length (flatE encC out) rfl hownz ⟨w12.heap.size, 0, none⟩ 1 1 [.int .i64 (X * S), .int .i64 (Y * S)] rfl rfl (newsLit (cs := #[.int .i64 (X * S), .int .i64 (Y * S)]) (by simp)) (by simp [Value.oneCell']) (by omega) (by unfold maxLen; omega) (by omega) (by simp; omega) (w12.heap.size + 1) (by simp) ?_; intro gg cc wz ownz hgz hatz hltz; have xtz : Xt (fun b => b = F0 + 1) we wz := (xt12.thenBelow (hbal _) szo).grown hgz (fun r e => .inr (by have := (ownBlock_lt hownz e).1; omega)); have boxz : Boxed2 wz (F0 + 1) X Y := ((hgz.block (F0 + 1) (by simp; omega) (fun e => by have := (ownBlock_lt hownz e.symm).1; omega)).trans ((hbal _).block (F0 + 1) (by omega))).trans box12; have z0 := boxz.cells.1; have z1 := boxz.cells.2; have p0z := (xtz.cell (a := ⟨F0, 0, none⟩) (by show F0 < _; omega) (by show ¬ F0 = F0 + 1; omega)).trans p0; have p1z := (xtz.cell (a := ⟨F0, 1, none⟩) (by show F0 < _; omega) (by show ¬ F0 = F0 + 1; omega)).trans p1; have HO := Lib.hid ownz; have HX := Lib.hid xtz; have HB := Lib.hid boxz; clear hgz ownz xtz boxz hatz)
                rw [Exit.noGoto_ret]
                have hres : res = some (out ++ [(X * S, Y * S)]) := by
                  have h := HR3.out
                  rw [if_neg HFull.out, if_pos HF.out] at h
                  injection h with h
                  exact h.symm
                subst hres
                refine bodyPost_ret (v := .tuple #[.slice (some ⟨gg, 0, none⟩) (out.length + 1) cc, .int .i64 0]) (by simp [results, Tryd.results11, go_sem]) rfl ⟨⟨_, rfl, ?_⟩, ?_⟩
                · have h := HO.out
                  rw [flat_snoc, show out.length + 1 = (out ++ [(X * S, Y * S)]).length by rw [List.length_append]; rfl] at h
                  have h2 := Spots_of_lst (rowLst encC_len h)
                  rw [List.length_append] at h2
                  exact h2
                · rw [hB]
                  exact HX.out.below be (by omega) (fun b hb => by omega)
              · have heq := eql_spot_to X Y x0 y0 false (decide_eq_false hfirst)
                have HF := Lib.hid hfirst
                clear hfirst
                go_wp2_with (at_builtin; refine wpList_append_lies _ rfl _ _ _ rfl (F0 + 1 + 1) 23 i0 _ 2 16 Tryd.underlying27 hi hz0 hz1 hz2 rfl (by omega) (.slice A6 out.length c6) out.length (flatE encC out) rfl hownz ⟨w12.heap.size, 0, none⟩ 1 1 [.int .i64 (X * S), .int .i64 (Y * S)] rfl rfl (newsLit (cs := #[.int .i64 (X * S), .int .i64 (Y * S)]) (by simp)) (by simp [Value.oneCell']) (by omega) (by unfold maxLen; omega) (by omega) (by simp; omega) (w12.heap.size + 1) (by simp) ?_; intro gg cc wz ownz hgz hatz hltz; have xtz : Xt (fun b => b = F0 + 1) we wz := (xt12.thenBelow (hbal _) szo).grown hgz (fun r e => .inr (by have := (ownBlock_lt hownz e).1; omega)); have boxz : Boxed2 wz (F0 + 1) X Y := ((hgz.block (F0 + 1) (by simp; omega) (fun e => by have := (ownBlock_lt hownz e.symm).1; omega)).trans ((hbal _).block (F0 + 1) (by omega))).trans box12; have z0 := boxz.cells.1; have z1 := boxz.cells.2; have p0z := (xtz.cell (a := ⟨F0, 0, none⟩) (by show F0 < _; omega) (by show ¬ F0 = F0 + 1; omega)).trans p0; have p1z := (xtz.cell (a := ⟨F0, 1, none⟩) (by show F0 < _; omega) (by show ¬ F0 = F0 + 1; omega)).trans p1; have HO := Lib.hid ownz; have HX := Lib.hid xtz; have HB := Lib.hid boxz; clear hgz ownz xtz boxz hatz)
                have hown := HO.out
                rw [flat_snoc] at hown
                have hrun : outO (inC (cellsL R)) S x0 y0 k3 X Y q3 (out ++ [(X * S, Y * S)]) = some res := by
                  have h := HR3.out
                  rwa [if_neg HFull.out, if_neg HF.out] at h
                refine ⟨⟨X, Y, q3, out ++ [(X * S, Y * S)], rfl, ⟨by rw [List.length_append]; exact hown, HB.out, HX.out, hq1, HLn.out, by have := HFull.out; simp; omega, ⟨k3, hrun⟩⟩⟩, ?_⟩
                rw [HB.out.cI.1, HB.out.cI.2, HCI.out.1, HCI.out.2]
                have h1 := HSmall.out q3 hq1
                have h2 := HFull.out
                simp only [lenV, intOf, Int.toNat_natCast]
                omega
          | false =>
            have HT := Lib.hid (show turnO (inC (cellsL R)) X Y q = none from by unfold turnO; rw [hq3e, if_neg (by rw [hlanda]; simp), if_neg (by rw [hlandb]; simp)])
            have HLa := Lib.hid hlanda
            clear hlanda hlandb hq3e
            go_wp2_with fail
            have hrun := HRun.out
            rw [HT.out] at hrun
            refine ⟨⟨X, Y, q, out, rfl, ⟨own12, box12, xt12, lt, HLa.out, len, ⟨k2, hrun⟩⟩⟩, ?_⟩
            rw [box12.cI.1, box12.cI.2, HCI.out.1, HCI.out.2]
            have h1 := HLess.out HLa.out
            simp only [lenV, intOf, Int.toNat_natCast]
            omega
end Go.Proofs.YtnbdnnbeiohmgaaDoor
