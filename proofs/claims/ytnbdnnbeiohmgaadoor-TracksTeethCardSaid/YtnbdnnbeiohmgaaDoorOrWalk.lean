/- The document's outline. Printed by wip/mk_orwalk.py. -/
import Derived.Deep.LoopGhost
import Derived.Test.YtnbdnnbeiohmgaaDoorOqP
import Derived.Test.YtnbdnnbeiohmgaaDoorOtComb
namespace Go.Proofs.YtnbdnnbeiohmgaaDoor
open Go.RowKit Go.Maps Go.Shelf Go.Lib

theorem has_inC (R : List R3) : hasL R = inC (cellsL R) := by
  funext p q
  unfold inC
  rw [Bool.eq_iff_iff, hasL_iff, decide_eq_true_eq, mem_cellsL]
  constructor
  · rintro ⟨r, h1, h2, h3, h4⟩
    exact ⟨r, h1, h2.symm, h3, h4⟩
  · rintro ⟨r, h1, h2, h3, h4⟩
    exact ⟨r, h1, h2.symm, h3, h4⟩
/-- the walk's state in the document -/
structure OrI (we wr : World) (base : Nat) (S : Int) (St : Int → Int → Bool) (fx fy : Int) (res : Option (List (Int × Int))) (x y : Int) (q : Nat) (v : Value) (out : List (Int × Int)) : Prop where
  own : wr.ownsRow base 23 2 v out.length (flatE encC out)
  xt : Below base we wr
  lt : q < 4
  land : landO St x y q = true
  len : 1 ≤ out.length ∧ out.length ≤ 1024
  run : ∃ k, outO St S fx fy k x y q out = some res
theorem dir_left {q : Nat} {u v : Int} (h4 : q < 4) (h : dirO q = (u, v)) : dirO ((q + 1) % 4) = (-v, u) := by
  have : q = 0 ∨ q = 1 ∨ q = 2 ∨ q = 3 := by omega
  rcases this with rfl | rfl | rfl | rfl <;> (simp only [dirO, Prod.mk.injEq] at h ⊢; omega)
theorem dir_right {q : Nat} {u v : Int} (h4 : q < 4) (h : dirO q = (u, v)) : dirO ((q + 3) % 4) = (v, -u) := by
  have : q = 0 ∨ q = 1 ∨ q = 2 ∨ q = 3 := by omega
  rcases this with rfl | rfl | rfl | rfl <;> (simp only [dirO, Prod.mk.injEq] at h ⊢; omega)
def Boxed2c (w : World) (b : Nat) (x y : Int) : Prop := w.heap[b]? = some (.cells #[.int .i64 x, .int .i64 y] 77 (0, 0))
theorem Boxed2c.cells {w : World} {b : Nat} {x y : Int} (h : Boxed2c w b x y) : w.cell? ⟨b, 0, none⟩ = some (.int .i64 x) ∧ w.cell? ⟨b, 1, none⟩ = some (.int .i64 y) := by
  have h : w.heap[b]? = _ := h
  exact ⟨by simp [World.cell?, h], by simp [World.cell?, h]⟩

set_option maxRecDepth 100000 in
set_option maxHeartbeats 8000000 in
theorem outline_ref (W H S : Int) (vL vR : Value) (ld : List R3) (y0 x0 t0 : Int) (r : List R3) (w : World) (hW : 1 ≤ W ∧ W ≤ 256) (hH : 1 ≤ H ∧ H ≤ 256) (hS : 1 ≤ S ∧ S ≤ 50000) (hL : Runs w vL ld) (hpL : Proper W H ld) (hlL : ld.length ≤ 8192)
    (hR : Runs w vR ((y0, x0, t0) :: r)) (hpR : Proper W H ((y0, x0, t0) :: r)) (hlR : ((y0, x0, t0) :: r).length ≤ 8192) (hWH : W * H ≤ 8192) (h0 : x0 < t0) (rest : List (Int × Int)) (hfirst : cellsS (hasL ((y0, x0, t0) :: r)) W.toNat H.toNat = (x0, y0) :: rest)
    (hconn : Conn (hasL ((y0, x0, t0) :: r)) (x0, y0)) (k : Nat) (res : Option (List (Int × Int))) (hk : outO (inC (cellsL ((y0, x0, t0) :: r))) S x0 y0 k x0 y0 0 [(x0 * S, y0 * S)] = some res) :
    Calls Tryd.prog 12 #[.agg #[.int .i64 W, .int .i64 H, .int .i64 S, vL], vR] w fun e w' =>
      (∃ v', e = .returned (.tuple #[v', .int .i64 (endO res)]) ∧ Spots w' v' (res.getD [])) ∧ Below w.heap.size w w' := by
  obtain ⟨R, hRe⟩ : ∃ R, (y0, x0, t0) :: r = R := ⟨_, rfl⟩
  rw [hRe] at hR hpR hlR hfirst hconn hk
  have hm0 : (x0, y0) ∈ cellsL R := mem_cellsL.2 ⟨(y0, x0, t0), by rw [← hRe]; simp, rfl, Int.le_refl _, h0⟩
  have hP : ∀ p q, inC (cellsL R) p q = true → (0 ≤ p ∧ p < W) ∧ 0 ≤ q ∧ q < H := fun p q h => by
    obtain ⟨z, hz, h1, h2, h3⟩ := mem_cellsL.1 (by simpa [inC] using h)
    have := hpR.rows z hz
    omega
  have b1 : Below w.heap.size w (w.alloc (.cells #[.int .i64 W, .int .i64 H, .int .i64 S, vL] 37)) := (Below.refl _ _).alloc (Nat.le_refl _) _
  have hp := parts_ref W H S vL vR ld R _ hW hH hS (hL.below b1) hpL hlL (hR.below b1) hpR hlR x0 y0 rest hfirst hconn hWH
  obtain ⟨A, cap, rfl, -⟩ := id hR
  obtain ⟨bR, offR, rfl, hbR, hcR⟩ : ∃ b off, A = some ⟨b, off, none⟩ ∧ b < w.heap.size ∧ (w.cell? ⟨b, off, none⟩ = some (.int .i64 y0) ∧ w.cell? ⟨b, off + 1, none⟩ = some (.int .i64 x0)) := by
    obtain ⟨A', c', e, -, -, h3⟩ := id hR
    cases e
    obtain ⟨b, off, e, hb, hcs⟩ := h3 (by rw [← hRe]; simp)
    subst hRe
    exact ⟨b, off, e, hb, by simpa using hcs 0 0 _ _ rfl rfl, by simpa using hcs 0 1 _ _ rfl rfl⟩
  have HPa := Lib.hid hp
  have HRd := Lib.hid hR
  have HK := Lib.hid hk
  have HP := Lib.hid hP
  have HM := Lib.hid hm0
  have hrows := hpR.rows
  have HRows := Lib.hid hrows
  have HB1 := Lib.hid b1
  have hRl : (0 : Int) < R.length := by
    have : 0 < R.length := by rw [← hRe]; simp
    omega
  clear hp hR hk hP hm0 hrows b1 hL
  go_enter Tryd.func12, Tryd.ntmps12
  go_wp2_with fail
  refine HPa.out.mono ?_
  rintro e w2 ⟨⟨A1, c1, rfl⟩, hb2⟩
  have b2 := HB1.out.trans (hb2.mono (by simp))
  have g2 := hb2.block w.heap.size (by simp)
  rw [heap_alloc_new] at g2
  have s2 := hb2.size
  simp at s2
  have HO := Lib.hid (of_ref _ R w2 (HRd.out.below b2) (fun z hz => by have := HRows.out z hz; omega) hlR)
  clear hb2 HPa HB1
  obtain ⟨B, hB⟩ : ∃ B, w.heap.size = B := ⟨_, rfl⟩
  go_wp2_with fail
  refine HO.out.mono ?_
  rintro e w3 ⟨⟨bs, N, rfl, hS3, hbs⟩, hb3⟩
  rw [has_inC] at hS3
  have d0 := ((b2.trans (hb3.mono b2.size)).cell (p := ⟨bR, offR, none⟩) hbR).trans hcR.1
  have d1 := ((b2.trans (hb3.mono b2.size)).cell (p := ⟨bR, offR + 1, none⟩) hbR).trans hcR.2
  have b3 := b2.trans (hb3.mono b2.size)
  rw [hB] at b3 g2 s2 hbR
  have g3 := (hb3.block B (by omega)).trans g2
  have q2 : w3.cell? ⟨B, 2, none⟩ = some (.int .i64 S) := by simp [World.cell?, g3]
  have s3 := hb3.size
  have hbs3 := hS3.lt
  have hx0 := HP.out x0 y0 (by simpa [inC] using HM.out)
  have ex : wrap64 (x0 * S) = x0 * S := by
    have := Int.mul_le_mul (a := x0) (c := 256) (b := S) (d := 50000) (by omega) (by omega) (by omega) (by omega)
    have := Int.mul_nonneg (a := x0) (b := S) (by omega) (by omega)
    exact wrapId _ (by omega) (by omega)
  have ey : wrap64 (y0 * S) = y0 * S := by
    have := Int.mul_le_mul (a := y0) (c := 256) (b := S) (d := 50000) (by omega) (by omega) (by omega) (by omega)
    have := Int.mul_nonneg (a := y0) (b := S) (by omega) (by omega)
    exact wrapId _ (by omega) (by omega)
  clear b2 g2 HO hb3 hcR
  go_upto_region 10 with fail
  obtain ⟨F0, hF0⟩ : ∃ F0, w3.heap.size = F0 := ⟨_, rfl⟩
  obtain ⟨we, hwe⟩ : ∃ w', w3.alloc (.cells #[.int .i64 (x0 * S), .int .i64 (y0 * S)] 23) = w' := ⟨_, rfl⟩
  have bwe : Below w3.heap.size w3 we := by rw [← hwe]; exact (Below.refl _ _).alloc (Nat.le_refl _) _
  have eF : Boxed2 we F0 (x0 * S) (y0 * S) := by rw [← hwe, ← hF0]; exact heap_alloc_new w3 _
  have se : we.heap.size = F0 + 1 := by rw [← hwe, size_allocO, hF0]
  rw [hwe, hF0]
  rw [hF0] at bwe hbs3 s3
  clear hwe
  have q2 := (bwe.cell (p := ⟨B, 2, none⟩) (by show B < _; omega)).trans q2
  have f0 := eF.cells.1
  have f1 := eF.cells.2
  have hSe := SetT.setCof hS3 (bwe.block bs (by omega))
  have be : Below B w we := b3.trans (bwe.mono (by omega))
  have own0 : (we.alloc (.cells #[.int .i64 (x0 * S), .int .i64 (y0 * S)] 23)).ownsRow (F0 + 1) 23 2 (.slice (some ⟨F0 + 1, 0, none⟩) 1 1) 1 (flatE encC [(x0 * S, y0 * S)]) := by
    have := World.ownsRow_lit (base := F0 + 1) (e := 23) (size := 2) we #[.int .i64 (x0 * S), .int .i64 (y0 * S)] 1 (by omega) (by simp [maxLen]) rfl
    rw [se] at this
    exact this
  have HSe := Lib.hid hSe
  have HSz := Lib.hid se
  have hszF : F0 + 1 ≤ we.heap.size := by omega
  clear b3 g3 hS3 bwe hF0 eF d0 d1 hSe
  go_wp2_with fail
  have HI0 : OrI we (we.alloc (.cells #[.int .i64 (x0 * S), .int .i64 (y0 * S)] 23)) (F0 + 1) S (inC (cellsL R)) x0 y0 res x0 y0 0 (.slice (some ⟨F0 + 1, 0, none⟩) 1 1) [(x0 * S, y0 * S)] := by
    refine ⟨own0, by rw [← HSz.out]; exact (Below.refl _ _).alloc (Nat.le_refl _) _, by omega, ?_, by simp, k, HK.out⟩
    simp only [landO, corO, inC, Int.add_zero]
    exact decide_eq_true HM.out
  have HI0 := Lib.hid HI0
  have HSzz := HSz.out
  try rw [HSzz]
  clear own0 se HSzz ex ey
  go_loopg [9, 10, 11, 12, 14] (1023 * 1000 + 1000) (fun g x9 x10 x11 x12 v wr => ∃ (x y u z : Int) (q : Nat) (out : List (Int × Int)), x9 = .int .i64 x ∧ x10 = .int .i64 y ∧ x11 = .int .i64 u ∧ x12 = .int .i64 z ∧ dirO q = (u, z) ∧ OrI we wr (F0 + 1) S (inC (cellsL R)) x0 y0 res x y q v out ∧ (1024 - out.length) * 1000 + farO W H x y q ≤ g)
  case atStart =>
    refine ⟨x0, y0, 1, 0, 0, [(x0 * S, y0 * S)], rfl, rfl, rfl, rfl, rfl, HI0.out, ?_⟩
    have := farO_small (W := W) (H := H) (x := x0) (y := y0) hW.2 hH.2 (by omega) (by omega) (w := 0) (by omega)
    simp only [List.length_cons, List.length_nil]
    omega
  case round =>
    obtain ⟨x, y, dx, dy, q, out, rfl, rfl, rfl, rfl, hd, hI, hk9⟩ := hrel
    obtain ⟨own, xt, lt, land, len, k', run⟩ := hI
    obtain ⟨A6, c6, rfl⟩ := rowSlice own
    have hxy := HP.out _ _ land
    have hdir : (-1 ≤ dx ∧ dx ≤ 1) ∧ -1 ≤ dy ∧ dy ≤ 1 := by
      have : q = 0 ∨ q = 1 ∨ q = 2 ∨ q = 3 := by omega
      rcases this with rfl | rfl | rfl | rfl <;> (simp only [dirO, Prod.mk.injEq] at hd; omega)
    have hxb : (0 ≤ x ∧ x ≤ W) ∧ 0 ≤ y ∧ y ≤ H := by
      have : q = 0 ∨ q = 1 ∨ q = 2 ∨ q = 3 := by omega
      rcases this with rfl | rfl | rfl | rfl <;> (simp only [corO] at hxy; omega)
    have HD := Lib.hid hd
    have HLand := Lib.hid land
    have HRun0 := Lib.hid run
    have HOwn := Lib.hid own
    have HXt := Lib.hid xt
    clear hd land run own xt HI0
    go_upto_region 13 with fail
    obtain ⟨X, hX⟩ : ∃ X, x + dx = X := ⟨_, rfl⟩
    obtain ⟨Y, hY⟩ : ∃ Y, y + dy = Y := ⟨_, rfl⟩
    rw [hX, hY]
    have hXb : (0 ≤ X ∧ X ≤ W) ∧ 0 ≤ Y ∧ Y ≤ H := by
      have hd := HD.out
      have : q = 0 ∨ q = 1 ∨ q = 2 ∨ q = 3 := by omega
      rcases this with rfl | rfl | rfl | rfl <;> (simp only [dirO, corO, Prod.mk.injEq] at hd hxy; omega)
    obtain ⟨k2, run2⟩ := outO_one HRun0.out HD.out hX hY
    have HRun := Lib.hid run2
    have HLeft := Lib.hid (land_left HLand.out lt HD.out hX hY)
    have HLess := Lib.hid (show landO (inC (cellsL R)) X Y q = true → farO W H X Y q < farO W H x y q from fun h => by
      have := farO_less (x := x) (y := y) HP.out lt (by rw [HD.out, hX, hY]; exact h)
      rwa [HD.out, hX, hY] at this)
    have HSmall := Lib.hid (fun (q' : Nat) (h : q' < 4) => farO_small (W := W) (H := H) hW.2 hH.2 hXb.1 hXb.2 h)
    clear hX hY run2 HRun0 HLand hxy
    obtain ⟨⟨cx, cy⟩, hc⟩ : ∃ d, corO q = d := ⟨_, rfl⟩
    obtain ⟨q3, hq3e⟩ : ∃ n, (q + 3) % 4 = n := ⟨_, rfl⟩
    have hq3 : q3 < 4 := by omega
    obtain ⟨⟨ex3, ey3⟩, hc3⟩ : ∃ d, corO q3 = d := ⟨_, rfl⟩
    have hcb : ((-1 ≤ cx ∧ cx ≤ 0) ∧ -1 ≤ cy ∧ cy ≤ 0) ∧ (-1 ≤ ex3 ∧ ex3 ≤ 0) ∧ -1 ≤ ey3 ∧ ey3 ≤ 0 := by
      have : q = 0 ∨ q = 1 ∨ q = 2 ∨ q = 3 := by omega
      have : q3 = 0 ∨ q3 = 1 ∨ q3 = 2 ∨ q3 = 3 := by omega
      refine ⟨?_, ?_⟩
      · rcases ‹q = 0 ∨ q = 1 ∨ q = 2 ∨ q = 3› with h | h | h | h <;> (rw [h] at hc; simp only [corO, Prod.mk.injEq] at hc; omega)
      · rcases ‹q3 = 0 ∨ q3 = 1 ∨ q3 = 2 ∨ q3 = 3› with h | h | h | h <;> (rw [h] at hc3; simp only [corO, Prod.mk.injEq] at hc3; omega)
    have hd3 := dir_right lt HD.out
    rw [hq3e] at hd3
    obtain ⟨a1, ha1⟩ : ∃ a, X + cx = a := ⟨_, rfl⟩
    obtain ⟨a2, ha2⟩ : ∃ a, Y + cy = a := ⟨_, rfl⟩
    obtain ⟨a3, ha3⟩ : ∃ a, X + ex3 = a := ⟨_, rfl⟩
    obtain ⟨a4, ha4⟩ : ∃ a, Y + ey3 = a := ⟨_, rfl⟩
    have hce1 := fun w => cell_ref X Y q dx dy w lt HD.out (by omega) (by omega)
    have hce3 := fun w => cell_ref X Y q3 dy (-dx) w hq3 hd3 (by omega) (by omega)
    rw [hc] at hce1
    rw [hc3] at hce3
    dsimp only at hce1 hce3
    rw [ha1, ha2] at hce1
    rw [ha3, ha4] at hce3
    have HCe1 := Lib.hid hce1
    have HCe3 := Lib.hid hce3
    obtain ⟨L1, hL1⟩ : ∃ b, inC (cellsL R) a1 a2 = b := ⟨_, rfl⟩
    obtain ⟨L3, hL3⟩ : ∃ b, inC (cellsL R) a3 a4 = b := ⟨_, rfl⟩
    have hlanda : landO (inC (cellsL R)) X Y q = L1 := by
      unfold landO
      rw [hc]
      dsimp only
      rw [ha1, ha2]
      exact hL1
    have hlandb : landO (inC (cellsL R)) X Y q3 = L3 := by
      unfold landO
      rw [hc3]
      dsimp only
      rw [ha3, ha4]
      exact hL3
    have jx1 : isI64 a1 := isI64_of (by omega)
    have jy1 : isI64 a2 := isI64_of (by omega)
    have jx3 : isI64 a3 := isI64_of (by omega)
    have jy3 : isI64 a4 := isI64_of (by omega)
    have HLa := Lib.hid hlanda
    have HLb := Lib.hid hlandb
    have HD3 := Lib.hid hd3
    have HQ3 := Lib.hid hq3e
    have HL1 := Lib.hid hL1
    have HL3 := Lib.hid hL3
    have hwr := HXt.out.size
    clear hc hc3 hce1 hce3 ha1 ha2 ha3 ha4 hlanda hlandb hd3 hq3e hL1 hL3
    go_wp2_with fail
    refine (HCe1.out _).mono ?_
    rintro e w7 ⟨rfl, b7⟩
    go_wp2_with fail
    obtain ⟨w8, hw8⟩ : ∃ w', w7.alloc (.cells #[.int .i64 a1, .int .i64 a2] 77) = w' := ⟨_, rfl⟩
    have b8 : Below w7.heap.size w7 w8 := by rw [← hw8]; exact (Below.refl _ _).alloc (Nat.le_refl _) _
    have e8 : Boxed2c w8 w7.heap.size a1 a2 := by rw [← hw8]; exact heap_alloc_new w7 _
    have z8 : w7.heap.size < w8.heap.size := by rw [← hw8, size_allocO]; omega
    rw [hw8]
    clear hw8
    obtain ⟨p1, hp1⟩ : ∃ p, w7.heap.size = p := ⟨_, rfl⟩
    rw [hp1] at e8 z8 ⊢
    refine (HCe3.out _).mono ?_
    rintro e w9 ⟨rfl, b9⟩
    have e9 : Boxed2c w9 p1 a1 a2 := (b9.block p1 z8).trans e8
    have s9 := b9.size
    go_upto_region 16 with fail
    obtain ⟨w10, hw10⟩ : ∃ w', w9.alloc (.cells #[.int .i64 a3, .int .i64 a4] 77) = w' := ⟨_, rfl⟩
    have b10 : Below w9.heap.size w9 w10 := by rw [← hw10]; exact (Below.refl _ _).alloc (Nat.le_refl _) _
    have e10 : Boxed2c w10 w9.heap.size a3 a4 := by rw [← hw10]; exact heap_alloc_new w9 _
    have e11 : Boxed2c w10 p1 a1 a2 := (b10.block p1 (by omega)).trans e9
    have s10 := b10.size
    rw [hw10]
    clear hw10
    obtain ⟨p2, hp2⟩ : ∃ p, w9.heap.size = p := ⟨_, rfl⟩
    rw [hp2] at e10 ⊢
    have s7 := b7.size
    have bA : Below wr.heap.size wr w10 := ((b7.trans (b8.mono s7)).trans (b9.mono (by omega))).trans (b10.mono (by omega))
    have own10 := ownsBelow HOwn.out bA
    have xt10 := HXt.out.trans (bA.mono (by omega))
    have sA := bA.size
    have hSb := SetT.setCof HSe.out (xt10.block bs (by omega))
    have lk1 := hSb.look (t := 81) setT jx1 jy1
    have lk3 := hSb.look (t := 81) setT jx3 jy3
    rw [HL1.out] at lk1
    rw [HL3.out] at lk3
    have m0 := e11.cells.1
    have m1 := e11.cells.2
    have m2 := e10.cells.1
    have m3 := e10.cells.2
    have q2z := (xt10.cell (p := ⟨B, 2, none⟩) (by show B < _; omega)).trans q2
    have f0z := (xt10.cell (p := ⟨F0, 0, none⟩) (by show F0 < _; omega)).trans f0
    have f1z := (xt10.cell (p := ⟨F0, 1, none⟩) (by show F0 < _; omega)).trans f1
    have exz : wrap64 (X * S) = X * S := by
      have := Int.mul_le_mul (a := X) (c := 256) (b := S) (d := 50000) (by omega) (by omega) (by omega) (by omega)
      have := Int.mul_nonneg (a := X) (b := S) (by omega) (by omega)
      exact wrapId _ (by omega) (by omega)
    have eyz : wrap64 (Y * S) = Y * S := by
      have := Int.mul_le_mul (a := Y) (c := 256) (b := S) (d := 50000) (by omega) (by omega) (by omega) (by omega)
      have := Int.mul_nonneg (a := Y) (b := S) (by omega) (by omega)
      exact wrapId _ (by omega) (by omega)
    have HO10 := Lib.hid own10
    have HX10 := Lib.hid xt10
    have hsz10 : F0 + 1 ≤ w10.heap.size := by omega
    have ob10 : ∀ g, (Value.slice A6 out.length c6).ownBlock = some g → F0 + 1 ≤ g := fun g hg => (ownBlock_lt own10 hg).1
    have HOb := Lib.hid ob10
    clear own10 xt10 b7 b8 b9 b10 e8 e9 e10 e11 bA hp1 hp2 ob10 hSb HOwn HXt HCe1 HCe3
    cases L1 with
    | false =>
      have hq1 : (q + 1) % 4 < 4 := by omega
      have HT := Lib.hid (show turnO (inC (cellsL R)) X Y q = some ((q + 1) % 4) from by unfold turnO; rw [if_pos HLa.out])
      have HDn := Lib.hid (dir_left lt HD.out)
      have HLn := HLeft
      obtain ⟨q1, hq1e⟩ : ∃ n, (q + 1) % 4 = n := ⟨_, rfl⟩
      rw [hq1e] at HT hq1 HLn HDn
      clear hq1e lk3
      have hfl := len
      obtain ⟨k3, run3⟩ : ∃ k', (if out.length = 1024 then some none else if X = x0 ∧ Y = y0 then some (some (out ++ [(X * S, Y * S)])) else outO (inC (cellsL R)) S x0 y0 k' X Y q1 (out ++ [(X * S, Y * S)])) = some res := by
        have h := HRun.out
        rw [HT.out] at h
        exact ⟨_, h⟩
      have HR3 := Lib.hid run3
      clear run3 HRun
      obtain ⟨i0, hi, hz0, hz1, hz2⟩ := info_parts infoSpotO
      have hbal : ∀ o o' : Obj, Below w10.heap.size w10 ((w10.alloc o).alloc o') := fun o o' => ((Below.refl _ _).alloc (Nat.le_refl _) o).alloc (by simp) o'
      have hownz := (HO10.out.alloc (.cells #[.int .i64 (X * S), .int .i64 (Y * S)] 23)).alloc (.cells #[.int .i64 (X * S), .int .i64 (Y * S)] 23)
      have hnew : (Value.slice A6 out.length c6).ownBlock ≠ some w10.heap.size := fun e => by have := (ownBlock_lt HO10.out e).2; omega
      have zz0 : ((w10.alloc (.cells #[.int .i64 (X * S), .int .i64 (Y * S)] 23)).alloc (.cells #[.int .i64 (X * S), .int .i64 (Y * S)] 23)).cell? ⟨w10.heap.size, 0, none⟩ = some (.int .i64 (X * S)) := by simp [go_sem]
      have zz1 : ((w10.alloc (.cells #[.int .i64 (X * S), .int .i64 (Y * S)] 23)).alloc (.cells #[.int .i64 (X * S), .int .i64 (Y * S)] 23)).cell? ⟨w10.heap.size, 1, none⟩ = some (.int .i64 (Y * S)) := by simp [go_sem]
      by_cases hfull : out.length = 1024
      · have hres : res = none := by
          have h := HR3.out
          rw [if_pos hfull] at h
          injection h with h
          exact h.symm
        subst hres
        have hf1 : (1024 : Int) < (out.length : Int) + 1 := by omega
        have HFull := Lib.hid hfull
        clear hfull
        go_wp2_with (at_builtin; refine wpList_append_lies _ rfl _ _ _ rfl (F0 + 1) 23 i0 _ 2 16 Tryd.underlying27 hi hz0 hz1 hz2 rfl (by omega) (.slice A6 out.length c6) out.length (flatE encC out) rfl hownz ⟨w10.heap.size + 1, 0, none⟩ 1 1 [.int .i64 (X * S), .int .i64 (Y * S)] rfl rfl (newsLit (cs := #[.int .i64 (X * S), .int .i64 (Y * S)]) (by simp)) (by simp [Value.oneCell']) (by omega) (by unfold maxLen; omega) (by omega) (by simp; omega) (w10.heap.size + 1 + 1) (by simp) ?_; intro gg cc wz ownz hgz hatz hltz; have xtz : Below (F0 + 1) we wz := (HX10.out.trans ((hbal _ _).mono hsz10)).grown hgz (by simp; omega) (fun r e => HOb.out r e); have z0 := (hgz.cell_far ⟨w10.heap.size, 0, none⟩ (by simp; omega) (fun e => hnew e.symm)).trans zz0; have z1 := (hgz.cell_far ⟨w10.heap.size, 1, none⟩ (by simp; omega) (fun e => hnew e.symm)).trans zz1; have f0z := (xtz.cell (p := ⟨F0, 0, none⟩) (by show F0 < _; omega)).trans f0; have f1z := (xtz.cell (p := ⟨F0, 1, none⟩) (by show F0 < _; omega)).trans f1; have HO := Lib.hid ownz; have HX := Lib.hid xtz; clear hgz ownz xtz hatz)
        refine bodyPost_ret (v := .tuple #[.slice none 0 0, .int .i64 3]) (by simp [results, Tryd.results12, go_sem]) rfl ⟨⟨.slice none 0 0, rfl, ?_⟩, by first | exact be.trans (HX.out.mono (by omega)) | (rw [hB]; exact be.trans (HX.out.mono (by omega)))⟩
        exact Spots_of_lst (Lst.nil _)
      · have hf1 : ¬ (1024 : Int) < (out.length : Int) + 1 := by omega
        have HFull := Lib.hid hfull
        clear hfull
        by_cases hfirst : X = x0 ∧ Y = y0
        · have heq := eql_spot_to (X * S) (Y * S) (x0 * S) (y0 * S) true (decide_eq_true (by rw [hfirst.1, hfirst.2]; exact ⟨rfl, rfl⟩))
          have HF := Lib.hid hfirst
          clear hfirst
          go_wp2_with (at_builtin; refine wpList_append_lies _ rfl _ _ _ rfl (F0 + 1) 23 i0 _ 2 16 Tryd.underlying27 hi hz0 hz1 hz2 rfl (by omega) (.slice A6 out.length c6) out.length (flatE encC out) rfl hownz ⟨w10.heap.size + 1, 0, none⟩ 1 1 [.int .i64 (X * S), .int .i64 (Y * S)] rfl rfl (newsLit (cs := #[.int .i64 (X * S), .int .i64 (Y * S)]) (by simp)) (by simp [Value.oneCell']) (by omega) (by unfold maxLen; omega) (by omega) (by simp; omega) (w10.heap.size + 1 + 1) (by simp) ?_; intro gg cc wz ownz hgz hatz hltz; have xtz : Below (F0 + 1) we wz := (HX10.out.trans ((hbal _ _).mono hsz10)).grown hgz (by simp; omega) (fun r e => HOb.out r e); have z0 := (hgz.cell_far ⟨w10.heap.size, 0, none⟩ (by simp; omega) (fun e => hnew e.symm)).trans zz0; have z1 := (hgz.cell_far ⟨w10.heap.size, 1, none⟩ (by simp; omega) (fun e => hnew e.symm)).trans zz1; have f0z := (xtz.cell (p := ⟨F0, 0, none⟩) (by show F0 < _; omega)).trans f0; have f1z := (xtz.cell (p := ⟨F0, 1, none⟩) (by show F0 < _; omega)).trans f1; have HO := Lib.hid ownz; have HX := Lib.hid xtz; clear hgz ownz xtz hatz)
          have hres : res = some (out ++ [(X * S, Y * S)]) := by
            have h := HR3.out
            rw [if_neg HFull.out, if_pos HF.out] at h
            injection h with h
            exact h.symm
          subst hres
          refine bodyPost_ret (v := .tuple #[.slice (some ⟨gg, 0, none⟩) (out.length + 1) cc, .int .i64 0]) (by simp [results, Tryd.results12, go_sem]) rfl ⟨⟨_, rfl, ?_⟩, by first | exact be.trans (HX.out.mono (by omega)) | (rw [hB]; exact be.trans (HX.out.mono (by omega)))⟩
          have h := HO.out
          rw [flat_snoc, show out.length + 1 = (out ++ [(X * S, Y * S)]).length by rw [List.length_append]; rfl] at h
          have h2 := Spots_of_lst (rowLst encC_len h)
          rw [List.length_append] at h2
          exact h2
        · have heq := eql_spot_to (X * S) (Y * S) (x0 * S) (y0 * S) false (decide_eq_false (fun h => hfirst ⟨Int.eq_of_mul_eq_mul_right (by omega) h.1, Int.eq_of_mul_eq_mul_right (by omega) h.2⟩))
          have HF := Lib.hid hfirst
          clear hfirst
          go_wp2_with (at_builtin; refine wpList_append_lies _ rfl _ _ _ rfl (F0 + 1) 23 i0 _ 2 16 Tryd.underlying27 hi hz0 hz1 hz2 rfl (by omega) (.slice A6 out.length c6) out.length (flatE encC out) rfl hownz ⟨w10.heap.size + 1, 0, none⟩ 1 1 [.int .i64 (X * S), .int .i64 (Y * S)] rfl rfl (newsLit (cs := #[.int .i64 (X * S), .int .i64 (Y * S)]) (by simp)) (by simp [Value.oneCell']) (by omega) (by unfold maxLen; omega) (by omega) (by simp; omega) (w10.heap.size + 1 + 1) (by simp) ?_; intro gg cc wz ownz hgz hatz hltz; have xtz : Below (F0 + 1) we wz := (HX10.out.trans ((hbal _ _).mono hsz10)).grown hgz (by simp; omega) (fun r e => HOb.out r e); have z0 := (hgz.cell_far ⟨w10.heap.size, 0, none⟩ (by simp; omega) (fun e => hnew e.symm)).trans zz0; have z1 := (hgz.cell_far ⟨w10.heap.size, 1, none⟩ (by simp; omega) (fun e => hnew e.symm)).trans zz1; have f0z := (xtz.cell (p := ⟨F0, 0, none⟩) (by show F0 < _; omega)).trans f0; have f1z := (xtz.cell (p := ⟨F0, 1, none⟩) (by show F0 < _; omega)).trans f1; have HO := Lib.hid ownz; have HX := Lib.hid xtz; clear hgz ownz xtz hatz)
          have hown := HO.out
          rw [flat_snoc] at hown
          have hrun : outO (inC (cellsL R)) S x0 y0 k3 X Y q1 (out ++ [(X * S, Y * S)]) = some res := by
            have h := HR3.out
            rwa [if_neg HFull.out, if_neg HF.out] at h
          have h1 := HSmall.out q1 hq1
          have h2 := HFull.out
          go_roundg ((1024 - (out.length + 1)) * 1000 + farO W H X Y q1)
          case measure => omega
          case rel => exact ⟨X, Y, (-dy), dx, q1, out ++ [(X * S, Y * S)], rfl, rfl, by go_num, by go_num, HDn.out, ⟨by rw [List.length_append]; exact hown, HX.out, hq1, HLn.out, by simp; omega, ⟨k3, hrun⟩⟩, by simp⟩
    | true =>
      cases L3 with
      | true =>
        have hq1 := hq3
        have HT := Lib.hid (show turnO (inC (cellsL R)) X Y q = some q3 from by unfold turnO; rw [HQ3.out, if_neg (by rw [HLa.out]; simp), if_pos HLb.out])
        have HDn := HD3
        have HLn := HLb
        have hfl := len
        obtain ⟨k3, run3⟩ : ∃ k', (if out.length = 1024 then some none else if X = x0 ∧ Y = y0 then some (some (out ++ [(X * S, Y * S)])) else outO (inC (cellsL R)) S x0 y0 k' X Y q3 (out ++ [(X * S, Y * S)])) = some res := by
          have h := HRun.out
          rw [HT.out] at h
          exact ⟨_, h⟩
        have HR3 := Lib.hid run3
        clear run3 HRun
        obtain ⟨i0, hi, hz0, hz1, hz2⟩ := info_parts infoSpotO
        have hbal : ∀ o o' : Obj, Below w10.heap.size w10 ((w10.alloc o).alloc o') := fun o o' => ((Below.refl _ _).alloc (Nat.le_refl _) o).alloc (by simp) o'
        have hownz := (HO10.out.alloc (.cells #[.int .i64 (X * S), .int .i64 (Y * S)] 23)).alloc (.cells #[.int .i64 (X * S), .int .i64 (Y * S)] 23)
        have hnew : (Value.slice A6 out.length c6).ownBlock ≠ some w10.heap.size := fun e => by have := (ownBlock_lt HO10.out e).2; omega
        have zz0 : ((w10.alloc (.cells #[.int .i64 (X * S), .int .i64 (Y * S)] 23)).alloc (.cells #[.int .i64 (X * S), .int .i64 (Y * S)] 23)).cell? ⟨w10.heap.size, 0, none⟩ = some (.int .i64 (X * S)) := by simp [go_sem]
        have zz1 : ((w10.alloc (.cells #[.int .i64 (X * S), .int .i64 (Y * S)] 23)).alloc (.cells #[.int .i64 (X * S), .int .i64 (Y * S)] 23)).cell? ⟨w10.heap.size, 1, none⟩ = some (.int .i64 (Y * S)) := by simp [go_sem]
        by_cases hfull : out.length = 1024
        · have hres : res = none := by
            have h := HR3.out
            rw [if_pos hfull] at h
            injection h with h
            exact h.symm
          subst hres
          have hf1 : (1024 : Int) < (out.length : Int) + 1 := by omega
          have HFull := Lib.hid hfull
          clear hfull
          go_wp2_with (at_builtin; refine wpList_append_lies _ rfl _ _ _ rfl (F0 + 1) 23 i0 _ 2 16 Tryd.underlying27 hi hz0 hz1 hz2 rfl (by omega) (.slice A6 out.length c6) out.length (flatE encC out) rfl hownz ⟨w10.heap.size + 1, 0, none⟩ 1 1 [.int .i64 (X * S), .int .i64 (Y * S)] rfl rfl (newsLit (cs := #[.int .i64 (X * S), .int .i64 (Y * S)]) (by simp)) (by simp [Value.oneCell']) (by omega) (by unfold maxLen; omega) (by omega) (by simp; omega) (w10.heap.size + 1 + 1) (by simp) ?_; intro gg cc wz ownz hgz hatz hltz; have xtz : Below (F0 + 1) we wz := (HX10.out.trans ((hbal _ _).mono hsz10)).grown hgz (by simp; omega) (fun r e => HOb.out r e); have z0 := (hgz.cell_far ⟨w10.heap.size, 0, none⟩ (by simp; omega) (fun e => hnew e.symm)).trans zz0; have z1 := (hgz.cell_far ⟨w10.heap.size, 1, none⟩ (by simp; omega) (fun e => hnew e.symm)).trans zz1; have f0z := (xtz.cell (p := ⟨F0, 0, none⟩) (by show F0 < _; omega)).trans f0; have f1z := (xtz.cell (p := ⟨F0, 1, none⟩) (by show F0 < _; omega)).trans f1; have HO := Lib.hid ownz; have HX := Lib.hid xtz; clear hgz ownz xtz hatz)
          refine bodyPost_ret (v := .tuple #[.slice none 0 0, .int .i64 3]) (by simp [results, Tryd.results12, go_sem]) rfl ⟨⟨.slice none 0 0, rfl, ?_⟩, by first | exact be.trans (HX.out.mono (by omega)) | (rw [hB]; exact be.trans (HX.out.mono (by omega)))⟩
          exact Spots_of_lst (Lst.nil _)
        · have hf1 : ¬ (1024 : Int) < (out.length : Int) + 1 := by omega
          have HFull := Lib.hid hfull
          clear hfull
          by_cases hfirst : X = x0 ∧ Y = y0
          · have heq := eql_spot_to (X * S) (Y * S) (x0 * S) (y0 * S) true (decide_eq_true (by rw [hfirst.1, hfirst.2]; exact ⟨rfl, rfl⟩))
            have HF := Lib.hid hfirst
            clear hfirst
            go_wp2_with (at_builtin; refine wpList_append_lies _ rfl _ _ _ rfl (F0 + 1) 23 i0 _ 2 16 Tryd.underlying27 hi hz0 hz1 hz2 rfl (by omega) (.slice A6 out.length c6) out.length (flatE encC out) rfl hownz ⟨w10.heap.size + 1, 0, none⟩ 1 1 [.int .i64 (X * S), .int .i64 (Y * S)] rfl rfl (newsLit (cs := #[.int .i64 (X * S), .int .i64 (Y * S)]) (by simp)) (by simp [Value.oneCell']) (by omega) (by unfold maxLen; omega) (by omega) (by simp; omega) (w10.heap.size + 1 + 1) (by simp) ?_; intro gg cc wz ownz hgz hatz hltz; have xtz : Below (F0 + 1) we wz := (HX10.out.trans ((hbal _ _).mono hsz10)).grown hgz (by simp; omega) (fun r e => HOb.out r e); have z0 := (hgz.cell_far ⟨w10.heap.size, 0, none⟩ (by simp; omega) (fun e => hnew e.symm)).trans zz0; have z1 := (hgz.cell_far ⟨w10.heap.size, 1, none⟩ (by simp; omega) (fun e => hnew e.symm)).trans zz1; have f0z := (xtz.cell (p := ⟨F0, 0, none⟩) (by show F0 < _; omega)).trans f0; have f1z := (xtz.cell (p := ⟨F0, 1, none⟩) (by show F0 < _; omega)).trans f1; have HO := Lib.hid ownz; have HX := Lib.hid xtz; clear hgz ownz xtz hatz)
            have hres : res = some (out ++ [(X * S, Y * S)]) := by
              have h := HR3.out
              rw [if_neg HFull.out, if_pos HF.out] at h
              injection h with h
              exact h.symm
            subst hres
            refine bodyPost_ret (v := .tuple #[.slice (some ⟨gg, 0, none⟩) (out.length + 1) cc, .int .i64 0]) (by simp [results, Tryd.results12, go_sem]) rfl ⟨⟨_, rfl, ?_⟩, by first | exact be.trans (HX.out.mono (by omega)) | (rw [hB]; exact be.trans (HX.out.mono (by omega)))⟩
            have h := HO.out
            rw [flat_snoc, show out.length + 1 = (out ++ [(X * S, Y * S)]).length by rw [List.length_append]; rfl] at h
            have h2 := Spots_of_lst (rowLst encC_len h)
            rw [List.length_append] at h2
            exact h2
          · have heq := eql_spot_to (X * S) (Y * S) (x0 * S) (y0 * S) false (decide_eq_false (fun h => hfirst ⟨Int.eq_of_mul_eq_mul_right (by omega) h.1, Int.eq_of_mul_eq_mul_right (by omega) h.2⟩))
            have HF := Lib.hid hfirst
            clear hfirst
            go_wp2_with (at_builtin; refine wpList_append_lies _ rfl _ _ _ rfl (F0 + 1) 23 i0 _ 2 16 Tryd.underlying27 hi hz0 hz1 hz2 rfl (by omega) (.slice A6 out.length c6) out.length (flatE encC out) rfl hownz ⟨w10.heap.size + 1, 0, none⟩ 1 1 [.int .i64 (X * S), .int .i64 (Y * S)] rfl rfl (newsLit (cs := #[.int .i64 (X * S), .int .i64 (Y * S)]) (by simp)) (by simp [Value.oneCell']) (by omega) (by unfold maxLen; omega) (by omega) (by simp; omega) (w10.heap.size + 1 + 1) (by simp) ?_; intro gg cc wz ownz hgz hatz hltz; have xtz : Below (F0 + 1) we wz := (HX10.out.trans ((hbal _ _).mono hsz10)).grown hgz (by simp; omega) (fun r e => HOb.out r e); have z0 := (hgz.cell_far ⟨w10.heap.size, 0, none⟩ (by simp; omega) (fun e => hnew e.symm)).trans zz0; have z1 := (hgz.cell_far ⟨w10.heap.size, 1, none⟩ (by simp; omega) (fun e => hnew e.symm)).trans zz1; have f0z := (xtz.cell (p := ⟨F0, 0, none⟩) (by show F0 < _; omega)).trans f0; have f1z := (xtz.cell (p := ⟨F0, 1, none⟩) (by show F0 < _; omega)).trans f1; have HO := Lib.hid ownz; have HX := Lib.hid xtz; clear hgz ownz xtz hatz)
            have hown := HO.out
            rw [flat_snoc] at hown
            have hrun : outO (inC (cellsL R)) S x0 y0 k3 X Y q3 (out ++ [(X * S, Y * S)]) = some res := by
              have h := HR3.out
              rwa [if_neg HFull.out, if_neg HF.out] at h
            have h1 := HSmall.out q3 hq1
            have h2 := HFull.out
            go_roundg ((1024 - (out.length + 1)) * 1000 + farO W H X Y q3)
            case measure => omega
            case rel => exact ⟨X, Y, dy, (-dx), q3, out ++ [(X * S, Y * S)], rfl, rfl, by go_num, by go_num, HDn.out, ⟨by rw [List.length_append]; exact hown, HX.out, hq1, HLn.out, by simp; omega, ⟨k3, hrun⟩⟩, by simp⟩
      | false =>
        have HT := Lib.hid (show turnO (inC (cellsL R)) X Y q = none from by unfold turnO; rw [HQ3.out, if_neg (by rw [HLa.out]; simp), if_neg (by rw [HLb.out]; simp)])
        go_wp2_with fail
        have hrun := HRun.out
        rw [HT.out] at hrun
        have h1 := HLess.out HLa.out
        go_roundg ((1024 - out.length) * 1000 + farO W H X Y q)
        case measure => omega
        case rel => exact ⟨X, Y, dx, dy, q, out, rfl, rfl, rfl, rfl, HD.out, ⟨HO10.out, HX10.out, lt, HLa.out, len, ⟨k2, hrun⟩⟩, Nat.le_refl _⟩
end Go.Proofs.YtnbdnnbeiohmgaaDoor
