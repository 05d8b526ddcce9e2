/- drift: sea.groups of a region of one cell, and of none. -/
import Derived.Test.YtnbdnnbeiohmgaaDnMap
import Derived.Test.YtnbdnnbeiohmgaaDnPushN
namespace Go.Proofs.Ytnbdnnbeiohmgaa
open Go.RowKit Go.Shelf Go.Lib Go.Maps
attribute [local go_sem] Oper.semAt_some

/-- a cell of the bay -/
structure OneC (x y : Int) : Prop where
  ok : checkRs 5 5 100 landB [[(y, x, x + 1)]] = true
  cl : cellsL [(y, x, x + 1)] = [(x, y)]
  rf : refR (fun p q => decide (p = x ∧ q = y)) 5 5 = [(y, x, x + 1)]
  ain : hasL allB x y = true
  bay : (0 ≤ x ∧ x < 5) ∧ 0 ≤ y ∧ y < 5
theorem one_a : OneC 1 1 := ⟨by decide +kernel, by decide +kernel, by decide +kernel, by decide +kernel, by decide +kernel⟩
theorem one_b : OneC 3 1 := ⟨by decide +kernel, by decide +kernel, by decide +kernel, by decide +kernel, by decide +kernel⟩
/-- a cell lies in a row -/
def CellAt (w : World) (b off : Nat) (x y : Int) : Prop := b < w.heap.size ∧ w.cell? ⟨b, off, none⟩ = some (.int .i64 x) ∧ w.cell? ⟨b, off + 1, none⟩ = some (.int .i64 y)
theorem CellAt.below {w w' : World} {b off : Nat} {x y : Int} (h : CellAt w b off x y) (hb : Below w.heap.size w w') : CellAt w' b off x y :=
  ⟨Nat.lt_of_lt_of_le h.1 hb.size, (hb.cell h.1).trans h.2.1, (hb.cell h.1).trans h.2.2⟩
theorem cells_dn (L A : Option Addr) (lc n c : Nat) (l : List R3) (w : World) (hL : Runs w (.slice L 5 lc) landB) (hv : Runs w (.slice A n c) l) (hok : checkRs 5 5 100 landB [l] = true) :
    Calls Try.prog 12 #[.agg #[.int .i64 5, .int .i64 5, .int .i64 100, .slice L 5 lc], .slice A n c] w fun e w' => (∃ C cc, e = .returned (.tuple #[.slice C (cellsL l).length cc, .int .i64 0]) ∧ Lst 2 encC w' (.slice C (cellsL l).length cc) (cellsL l)) ∧ Below w.heap.size w w' := by
  have hC := cells_gr 5 5 100 (.slice L 5 lc) (.slice A n c) landB l w hL hv
  rw [hok, argE_true] at hC
  refine hC.mono ?_
  rintro e w' ⟨⟨v', rfl, hl⟩, hb⟩
  rw [if_pos rfl] at hl
  obtain ⟨C, cc, rfl, -⟩ := id hl
  exact ⟨⟨C, cc, rfl, hl⟩, hb⟩
theorem cellsOne_dn {x y : Int} (ho : OneC x y) (L A : Option Addr) (lc n c : Nat) (w : World) (hL : Runs w (.slice L 5 lc) landB) (hv : Runs w (.slice A n c) [(y, x, x + 1)]) :
    Calls Try.prog 12 #[.agg #[.int .i64 5, .int .i64 5, .int .i64 100, .slice L 5 lc], .slice A n c] w fun e w' => (∃ b off cc, e = .returned (.tuple #[.slice (some ⟨b, off, none⟩) 1 cc, .int .i64 0]) ∧ CellAt w' b off x y) ∧ Below w.heap.size w w' := by
  refine (cells_dn L A lc n c _ w hL hv ho.ok).mono ?_
  rintro e w' ⟨⟨C, cc, rfl, hl⟩, hb⟩
  rw [ho.cl] at hl ⊢
  obtain ⟨C', cc', e, -, -, h3⟩ := hl
  obtain ⟨b, off, e2, hlt, hcs⟩ := h3 (by simp)
  cases e
  subst e2
  exact ⟨⟨b, off, cc, rfl, hlt, hcs 0 0 _ _ rfl rfl, hcs 0 1 _ _ rfl rfl⟩, hb⟩
theorem regionOne_dn {x y : Int} (ho : OneC x y) (L : Option Addr) (lc : Nat) (v : Value) (w : World) (hL : Runs w (.slice L 5 lc) landB) (hv : Lst 2 encC w v [(x, y)]) :
    Calls Try.prog 83 #[.agg #[.int .i64 5, .int .i64 5, .int .i64 100, .slice L 5 lc], v] w fun e w' => (∃ A ca, e = .returned (.tuple #[.slice A 1 ca, .int .i64 0]) ∧ Runs w' (.slice A 1 ca) [(y, x, x + 1)]) ∧ Below w.heap.size w w' := by
  refine (gregion_gr 5 5 100 (.slice L 5 lc) v landB [(x, y)] w hL hv bay_grid (fun c hc => by
    rw [List.mem_singleton] at hc
    subst hc
    exact ho.bay) (by simp)).mono ?_
  rintro e w' ⟨⟨R, hR, v', rfl, hv'⟩, hb⟩
  have hEq : R = refR (fun p q => decide (p = x ∧ q = y)) (5 : Int).toNat (5 : Int).toNat := cells_eq2 (by decide) (by decide) (fun p q => by simp) hR
  have hE2 : R = [(y, x, x + 1)] := hEq.trans ho.rf
  subst hE2
  rw [if_pos (by simp)] at hv' ⊢
  obtain ⟨A, ca, rfl, -⟩ := id hv'
  exact ⟨⟨A, ca, rfl, hv'⟩, hb⟩
theorem infoP : (Try.prog.info? 28).map (fun i => (i.zero, i.size, i.bytes)) = some (some (.agg #[.int .i64 0, .int .i64 0, .int .i64 0, .int .i64 0]), 4, 32) := by kernel_rfl
theorem infoG : (Try.prog.info? 218).map (fun i => (i.zero, i.size, i.bytes)) = some (some (.agg #[.int .i64 0, .int .i64 0, .int .i64 0, .int .i64 0, .slice none 0 0]), 5, 56) := by kernel_rfl
/-- a group lies at the head of a block -/
def GroupAt (w : World) (g : Nat) (lo hi : Int) (R : Option Addr) (rc : Nat) : Prop := g < w.heap.size ∧ w.cell? ⟨g, 0, none⟩ = some (.int .i64 100) ∧ w.cell? ⟨g, 1, none⟩ = some (.int .i64 lo) ∧ w.cell? ⟨g, 2, none⟩ = some (.int .i64 100) ∧ w.cell? ⟨g, 3, none⟩ = some (.int .i64 hi) ∧ w.cell? ⟨g, 4, none⟩ = some (.slice R 1 rc)
theorem GroupAt.below {w w' : World} {g : Nat} {lo hi : Int} {R : Option Addr} {rc : Nat} (h : GroupAt w g lo hi R rc) (hb : Below w.heap.size w w') : GroupAt w' g lo hi R rc :=
  ⟨Nat.lt_of_lt_of_le h.1 hb.size, (hb.cell h.1).trans h.2.1, (hb.cell h.1).trans h.2.2.1, (hb.cell h.1).trans h.2.2.2.1, (hb.cell h.1).trans h.2.2.2.2.1, (hb.cell h.1).trans h.2.2.2.2.2⟩
theorem cell_grownX {w w' : World} {a : Addr} {v : Value} {row : Option Nat} (h : w.cell? a = some v) (hg : w.grownBy w' row) (hr : ∀ r, row = some r → ∃ o : Obj, w.heap[r]? = some o ∧ o.isCells = false) : w'.cell? a = some v := by
  have hb : a.block < w.heap.size := by
    rcases Nat.lt_or_ge a.block w.heap.size with h1 | h1
    · exact h1
    · simp [World.cell?, Array.getElem?_eq_none h1] at h
  refine (World.cell?_of_block (hg.block _ hb (fun e => ?_))).trans h
  obtain ⟨o, ho, hn⟩ := hr _ e.symm
  simp only [World.cell?, ho] at h
  cases o <;> first | (simp at h; done) | (cases hn; done)
theorem GroupAt.grownX {w w' : World} {g : Nat} {lo hi : Int} {R : Option Addr} {rc : Nat} {row : Option Nat} (h : GroupAt w g lo hi R rc) (hg : w.grownBy w' row) (hr : ∀ r, row = some r → ∃ o : Obj, w.heap[r]? = some o ∧ o.isCells = false) : GroupAt w' g lo hi R rc :=
  ⟨Nat.lt_of_lt_of_le h.1 hg.size, cell_grownX h.2.1 hg hr, cell_grownX h.2.2.1 hg hr, cell_grownX h.2.2.2.1 hg hr, cell_grownX h.2.2.2.2.1 hg hr, cell_grownX h.2.2.2.2.2 hg hr⟩
theorem GroupAt.xm {w w' : World} {g M : Nat} {lo hi : Int} {R : Option Addr} {rc : Nat} (h : GroupAt w g lo hi R rc) (hx : Xm M w w') (hne : g ≠ M) : GroupAt w' g lo hi R rc :=
  ⟨Nat.lt_of_lt_of_le h.1 hx.size, hx.cell h.1 hne h.2.1, hx.cell h.1 hne h.2.2.1, hx.cell h.1 hne h.2.2.2.1, hx.cell h.1 hne h.2.2.2.2.1, hx.cell h.1 hne h.2.2.2.2.2⟩
/-- the list of groups that a loop has gathered: before and behind its round -/
def OutG (x y lo hi : Int) (w0 : World) (O : Nat) (pre : List Unit) (W : World) : Prop := Xm O w0 W ∧
  (pre = [] → HasO W O (.cells #[.slice none 0 0] 214 (0, 0))) ∧
  (pre ≠ [] → ∃ G gc R rc, HasO W O (.cells #[.slice (some ⟨G, 0, none⟩) 1 gc] 214 (0, 0)) ∧ w0.heap.size ≤ G ∧ GroupAt W G lo hi R rc ∧ Runs W (.slice R 1 rc) [(y, x, x + 1)])
theorem outG_own (x y lo hi : Int) (w0 : World) (O B : Nat) (hB : w0.heap.size ≤ B) : OwnFrom B (OutG x y lo hi w0 O) := by
  rintro pre W W' row ⟨h1, h2, h3⟩ hg hr
  have hr' : ∀ r, row = some r → ∃ o : Obj, W.heap[r]? = some o ∧ o.isCells = false := fun r e => (hr r e).2
  refine ⟨h1.grownX hg (fun r e => Nat.le_trans hB (hr r e).1), fun e => (h2 e).grownX hg hr', fun e => ?_⟩
  obtain ⟨G, gc, R, rc, k1, k2, k3, k4⟩ := h3 e
  exact ⟨G, gc, R, rc, k1.grownX hg hr', k2, k3.grownX hg hr', k4.grownX (fun x => ⟨_, rfl⟩) hg hr'⟩

set_option maxRecDepth 100000 in
set_option maxHeartbeats 16000000 in
theorem groups_one (side lo hi : Int) (hside : (side = 0 ∧ lo = 50 ∧ hi = 100) ∨ (side = 1 ∧ lo = -100 ∧ hi = -50)) (L A Av : Option Addr) (lc b1 b2 c cv : Nat) (x y t : Int) (ho : OneC x y) (w : World) (hB : Bay w L lc b1 b2 A c) (hv : Runs w (.slice Av 1 cv) [(y, x, x + 1)]) (ht : inB t 0 1073741823 = true) :
    Calls Try.prog 140 #[.agg #[.int .i64 5, .int .i64 5, .int .i64 100, .slice L 5 lc, .slice (some ⟨b1, 0, none⟩) 1 1, .slice (some ⟨b2, 0, none⟩) 1 1, .int .i64 20, .int .i64 20, .int .i64 10, .int .i64 20, .bool false], .slice Av 1 cv, .int .i64 side, .int .i64 t, .int .i64 1000] w fun e w' => (∃ G gc R rc, e = .returned (.tuple #[.slice (some ⟨G, 0, none⟩) 1 gc, .int .i64 0]) ∧ GroupAt w' G lo hi R rc ∧ Runs w' (.slice R 1 rc) [(y, x, x + 1)]) ∧ Below w.heap.size w w' := by
  have HB_0 := Lib.hid hB
  have HV_0 := Lib.hid hv
  have HT := Lib.hid ht
  have HSd := Lib.hid (show Sided lo hi from hside.elim (fun h => .inl h.2) (fun h => .inr h.2))
  have BB0 := Lib.hid (Below.refl w.heap.size w)
  clear hB hv ht
  refine (callsIn_wide (n := 9)).1 (callsIn_of_wp_marks Try.func140 rfl trivial ?_ rfl)
  simp only [Try.ntmps140, List.size_toArray, List.length_cons, List.length_nil, Nat.reduceAdd, Nat.reduceSub, Array.replicate_succ, Array.replicate_zero, List.push_toArray, List.append_toArray, List.nil_append, List.cons_append]
  refine wpIn_wide.2 ?_
  go_upto_region 1 with fail
  obtain ⟨Z, hZ⟩ : ∃ Z, w.heap.size = Z := ⟨_, rfl⟩
  obtain ⟨w1, hw1⟩ : ∃ Z, (((w.alloc (.cells #[.int .i64 5, .int .i64 5, .int .i64 100, .slice L 5 lc, .slice (some ⟨b1, 0, none⟩) 1 1, .slice (some ⟨b2, 0, none⟩) 1 1, .int .i64 20, .int .i64 20, .int .i64 10, .int .i64 20, .bool false] 165)).alloc (.cells #[.slice none 0 0] 214)).alloc (.cells #[.int .i64 0] 33)) = Z := ⟨_, rfl⟩
  have k1 : Below w.heap.size w w1 := by rw [← hw1]; exact ((((Below.refl _ _).alloc (Nat.le_refl _) _).alloc (by simp) _).alloc (by simp; omega) _)
  have z1 : Z + 1 + 1 < w1.heap.size := by rw [← hw1, ← hZ]; simp
  have y1 : w.heap.size = Z := hZ
  have sea_1 : HasO w1 (Z) (.cells #[.int .i64 5, .int .i64 5, .int .i64 100, .slice L 5 lc, .slice (some ⟨b1, 0, none⟩) 1 1, .slice (some ⟨b2, 0, none⟩) 1 1, .int .i64 20, .int .i64 20, .int .i64 10, .int .i64 20, .bool false] 165 (0, 0)) := by rw [← hw1, ← hZ]; have h := (HasO.alloc (HasO.alloc (HasO.new (w := w) (o := .cells #[.int .i64 5, .int .i64 5, .int .i64 100, .slice L 5 lc, .slice (some ⟨b1, 0, none⟩) 1 1, .slice (some ⟨b2, 0, none⟩) 1 1, .int .i64 20, .int .i64 20, .int .i64 10, .int .i64 20, .bool false] 165) rfl) (.cells #[.slice none 0 0] 214)) (.cells #[.int .i64 0] 33)); simpa only [World.size_alloc] using h
  have r1_1 : HasO w1 (Z + 1) (.cells #[.slice none 0 0] 214 (0, 0)) := by rw [← hw1, ← hZ]; have h := (HasO.alloc (HasO.new (w := (w.alloc (.cells #[.int .i64 5, .int .i64 5, .int .i64 100, .slice L 5 lc, .slice (some ⟨b1, 0, none⟩) 1 1, .slice (some ⟨b2, 0, none⟩) 1 1, .int .i64 20, .int .i64 20, .int .i64 10, .int .i64 20, .bool false] 165))) (o := .cells #[.slice none 0 0] 214) rfl) (.cells #[.int .i64 0] 33)); simpa only [World.size_alloc] using h
  have r2_1 : HasO w1 (Z + 1 + 1) (.cells #[.int .i64 0] 33 (0, 0)) := by rw [← hw1, ← hZ]; have h := (HasO.new (w := ((w.alloc (.cells #[.int .i64 5, .int .i64 5, .int .i64 100, .slice L 5 lc, .slice (some ⟨b1, 0, none⟩) 1 1, .slice (some ⟨b2, 0, none⟩) 1 1, .int .i64 20, .int .i64 20, .int .i64 10, .int .i64 20, .bool false] 165)).alloc (.cells #[.slice none 0 0] 214))) (o := .cells #[.int .i64 0] 33) rfl); simpa only [World.size_alloc] using h
  (try rw [hw1]); (try rw [hZ])
  clear hw1 hZ
  have S1 := k1.size
  have HB_1 := Lib.hid (HB_0.out.below k1)
  have HV_1 := Lib.hid (HV_0.out.below k1)
  have BB1 := Lib.hid (BB0.out.trans (k1.mono BB0.out.size))
  clear k1 HB_0 HV_0 BB0
  have seaH_1 := Lib.hid sea_1
  clear sea_1
  have r1H_1 := Lib.hid r1_1
  clear r1_1
  have r2H_1 := Lib.hid r2_1
  clear r2_1
  have q1sea0 := HasO.cell (i := 0) seaH_1.out rfl
  have q1sea1 := HasO.cell (i := 1) seaH_1.out rfl
  have q1sea2 := HasO.cell (i := 2) seaH_1.out rfl
  have q1sea3 := HasO.cell (i := 3) seaH_1.out rfl
  go_wp2_with fail
  refine (cellsOne_dn ho L Av lc 1 cv _ HB_1.out.1 HV_1.out).mono ?_
  rintro e w2 ⟨⟨cb, co, cc, rfl, hcl⟩, hb2⟩
  have k2 : Below w1.heap.size w1 w2 := hb2
  clear hb2
  have S2 := k2.size
  have HB_2 := Lib.hid (HB_1.out.below k2)
  have HV_2 := Lib.hid (HV_1.out.below k2)
  have sea_2 := Lib.hid (seaH_1.out.below k2)
  have r1_2 := Lib.hid (r1H_1.out.below k2)
  have r2_2 := Lib.hid (r2H_1.out.below k2)
  have BB2 := Lib.hid (BB1.out.trans (k2.mono BB1.out.size))
  clear k2 HB_1 HV_1 seaH_1 r1H_1 r2H_1 BB1
  clear q1sea0 q1sea1 q1sea2 q1sea3
  have CL_2 := Lib.hid (hcl)
  clear hcl
  clear HV_2
  have hmk := makeP w2
  go_upto_region 5 with fail
  clear hmk
  obtain ⟨M, hM⟩ : ∃ Z, w2.heap.size = Z := ⟨_, rfl⟩
  obtain ⟨w3, hw3⟩ : ∃ Z, (w2.alloc (.map #[] 0)) = Z := ⟨_, rfl⟩
  have k3 : Below w2.heap.size w2 w3 := by rw [← hw3]; exact ((Below.refl _ _).alloc (Nat.le_refl _) _)
  have z3 : M < w3.heap.size := by rw [← hw3, ← hM]; simp
  have y3 : w2.heap.size = M := hM
  have mp_3 : HasO w3 (M) (.map #[] 0) := by rw [← hw3, ← hM]; have h := (HasO.new (w := w2) (o := .map #[] 0) rfl); simpa only [World.size_alloc] using h
  (try rw [hw3]); (try rw [hM])
  clear hw3 hM
  have S3 := k3.size
  have HB_3 := Lib.hid (HB_2.out.below k3)
  have sea_3 := Lib.hid (sea_2.out.below k3)
  have r1_3 := Lib.hid (r1_2.out.below k3)
  have r2_3 := Lib.hid (r2_2.out.below k3)
  have CL_3 := Lib.hid (CL_2.out.below k3)
  have BB3 := Lib.hid (BB2.out.trans (k3.mono BB2.out.size))
  clear k3 HB_2 sea_2 r1_2 r2_2 CL_2 BB2
  have mpH_3 := Lib.hid mp_3
  clear mp_3
  go_wp2_with fail
  refine wp_loop_rounds 2 ?_
  rw [rounds_succ]
  obtain ⟨hcl1, hcx, hcy⟩ := CL_3.out
  go_upto_region 9 with fail
  obtain ⟨K, hK⟩ : ∃ Z, w3.heap.size = Z := ⟨_, rfl⟩
  obtain ⟨w4, hw4⟩ : ∃ Z, (w3.alloc (.cells #[.int .i64 x, .int .i64 y] 39)) = Z := ⟨_, rfl⟩
  have k4 : Below w3.heap.size w3 w4 := by rw [← hw4]; exact ((Below.refl _ _).alloc (Nat.le_refl _) _)
  have z4 : K < w4.heap.size := by rw [← hw4, ← hK]; simp
  have y4 : w3.heap.size = K := hK
  have cell_4 : HasO w4 (K) (.cells #[.int .i64 x, .int .i64 y] 39 (0, 0)) := by rw [← hw4, ← hK]; have h := (HasO.new (w := w3) (o := .cells #[.int .i64 x, .int .i64 y] 39) rfl); simpa only [World.size_alloc] using h
  (try rw [hw4]); (try rw [hK])
  clear hw4 hK
  have S4 := k4.size
  have HB_4 := Lib.hid (HB_3.out.below k4)
  have sea_4 := Lib.hid (sea_3.out.below k4)
  have r1_4 := Lib.hid (r1_3.out.below k4)
  have r2_4 := Lib.hid (r2_3.out.below k4)
  have CL_4 := Lib.hid (CL_3.out.below k4)
  have mp_4 := Lib.hid (mpH_3.out.below k4)
  have BB4 := Lib.hid (BB3.out.trans (k4.mono BB3.out.size))
  clear k4 HB_3 sea_3 r1_3 r2_3 CL_3 mpH_3 BB3
  have cellH_4 := Lib.hid cell_4
  clear cell_4
  clear hcl1 hcx hcy
  have q4sea0 := HasO.cell (i := 0) sea_4.out rfl
  have q4sea1 := HasO.cell (i := 1) sea_4.out rfl
  have q4sea2 := HasO.cell (i := 2) sea_4.out rfl
  have q4sea3 := HasO.cell (i := 3) sea_4.out rfl
  have q4sea4 := HasO.cell (i := 4) sea_4.out rfl
  have q4sea5 := HasO.cell (i := 5) sea_4.out rfl
  have q4sea6 := HasO.cell (i := 6) sea_4.out rfl
  have q4sea7 := HasO.cell (i := 7) sea_4.out rfl
  have q4sea8 := HasO.cell (i := 8) sea_4.out rfl
  have q4sea9 := HasO.cell (i := 9) sea_4.out rfl
  have q4sea10 := HasO.cell (i := 10) sea_4.out rfl
  have q4cell0 := HasO.cell (i := 0) cellH_4.out rfl
  have q4cell1 := HasO.cell (i := 1) cellH_4.out rfl
  go_wp2_with fail
  refine (push_dn side lo hi hside L A lc b1 b2 c x y t _ HB_4.out ho.ain HT.out).mono ?_
  rintro e w5 ⟨rfl, hb5⟩
  have k5 : Below w4.heap.size w4 w5 := hb5
  clear hb5
  have S5 := k5.size
  have HB_5 := Lib.hid (HB_4.out.below k5)
  have sea_5 := Lib.hid (sea_4.out.below k5)
  have r1_5 := Lib.hid (r1_4.out.below k5)
  have r2_5 := Lib.hid (r2_4.out.below k5)
  have CL_5 := Lib.hid (CL_4.out.below k5)
  have mp_5 := Lib.hid (mp_4.out.below k5)
  have cell_5 := Lib.hid (cellH_4.out.below k5)
  have BB5 := Lib.hid (BB4.out.trans (k5.mono BB4.out.size))
  clear k5 HB_4 sea_4 r1_4 r2_4 CL_4 mp_4 cellH_4 BB4
  clear q4sea0 q4sea1 q4sea2 q4sea3 q4sea4 q4sea5 q4sea6 q4sea7 q4sea8 q4sea9 q4sea10 q4cell0 q4cell1
  go_upto_region 10 with fail
  obtain ⟨U, hU⟩ : ∃ Z, w5.heap.size = Z := ⟨_, rfl⟩
  obtain ⟨w6, hw6⟩ : ∃ Z, (w5.alloc (.cells #[.int .i64 100, .int .i64 lo, .int .i64 100, .int .i64 hi] 28)) = Z := ⟨_, rfl⟩
  have k6 : Below w5.heap.size w5 w6 := by rw [← hw6]; exact ((Below.refl _ _).alloc (Nat.le_refl _) _)
  have z6 : U < w6.heap.size := by rw [← hw6, ← hU]; simp
  have y6 : w5.heap.size = U := hU
  have pb_6 : HasO w6 (U) (.cells #[.int .i64 100, .int .i64 lo, .int .i64 100, .int .i64 hi] 28 (0, 0)) := by rw [← hw6, ← hU]; have h := (HasO.new (w := w5) (o := .cells #[.int .i64 100, .int .i64 lo, .int .i64 100, .int .i64 hi] 28) rfl); simpa only [World.size_alloc] using h
  (try rw [hw6]); (try rw [hU])
  clear hw6 hU
  have S6 := k6.size
  have HB_6 := Lib.hid (HB_5.out.below k6)
  have sea_6 := Lib.hid (sea_5.out.below k6)
  have r1_6 := Lib.hid (r1_5.out.below k6)
  have r2_6 := Lib.hid (r2_5.out.below k6)
  have CL_6 := Lib.hid (CL_5.out.below k6)
  have mp_6 := Lib.hid (mp_5.out.below k6)
  have cell_6 := Lib.hid (cell_5.out.below k6)
  have BB6 := Lib.hid (BB5.out.trans (k6.mono BB5.out.size))
  clear k6 HB_5 sea_5 r1_5 r2_5 CL_5 mp_5 cell_5 BB5
  have pbH_6 := Lib.hid pb_6
  clear pb_6
  have q6pb0 := HasO.cell (i := 0) pbH_6.out rfl
  have q6pb1 := HasO.cell (i := 1) pbH_6.out rfl
  have q6pb2 := HasO.cell (i := 2) pbH_6.out rfl
  have q6pb3 := HasO.cell (i := 3) pbH_6.out rfl
  have hlk := lookP0 100 lo 100 hi M w6 mp_6.out
  have heq := eqNilC w6
  go_upto_region 14 with (at_builtin; refine wpList_append_first _ rfl _ _ _ rfl 28 _ 4 32 Try.underlying250 infoP rfl (by omega) rfl ⟨w6.heap.size, 0, none⟩ 1 [.int .i64 100, .int .i64 lo, .int .i64 100, .int .i64 hi] rfl rfl (newsLit (cs := #[.int .i64 100, .int .i64 lo, .int .i64 100, .int .i64 hi]) rfl) (by simp [Value.oneCell']) (by omega) (w6.heap.size + 1) (by simp) ?_; intro oc w7 hoc hown20 hb20 hl20)
  obtain ⟨O, hO⟩ : ∃ Z, w6.heap.size + 1 = Z := ⟨_, rfl⟩
  have k7 : Below w6.heap.size w6 w7 := ((Below.refl _ _).alloc (Nat.le_refl _) _).trans (hb20.mono (by omega))
  have row7 := RowAt.own hown20
  rw [hO] at row7
  rw [hO]
  clear hown20 hb20 hl20 hlk heq
  clear q6pb0 q6pb1 q6pb2 q6pb3
  have S7 := k7.size
  have HB_7 := Lib.hid (HB_6.out.below k7)
  have sea_7 := Lib.hid (sea_6.out.below k7)
  have r1_7 := Lib.hid (r1_6.out.below k7)
  have r2_7 := Lib.hid (r2_6.out.below k7)
  have CL_7 := Lib.hid (CL_6.out.below k7)
  have mp_7 := Lib.hid (mp_6.out.below k7)
  have cell_7 := Lib.hid (cell_6.out.below k7)
  have pb_7 := Lib.hid (pbH_6.out.below k7)
  have BB7 := Lib.hid (BB6.out.trans (k7.mono BB6.out.size))
  clear k7 HB_6 sea_6 r1_6 r2_6 CL_6 mp_6 cell_6 pbH_6 BB6
  have ro_7 := Lib.hid (row7)
  clear row7
  have q7pb0 := HasO.cell (i := 0) pb_7.out rfl
  have q7pb1 := HasO.cell (i := 1) pb_7.out rfl
  have q7pb2 := HasO.cell (i := 2) pb_7.out rfl
  have q7pb3 := HasO.cell (i := 3) pb_7.out rfl
  have q7cell0 := HasO.cell (i := 0) cell_7.out rfl
  have q7cell1 := HasO.cell (i := 1) cell_7.out rfl
  obtain ⟨W, hW⟩ : ∃ Z, w7.alloc (.cells #[.int .i64 x, .int .i64 y] 39) = Z := ⟨_, rfl⟩
  have zM := mp_7.out.lt
  have hMW : HasO W M (.map #[] 0) := by rw [← hW]; exact mp_7.out.alloc _
  have hCW : HasO W w7.heap.size (.cells #[.int .i64 x, .int .i64 y] 39 (0, 0)) := HasO.new hW
  have sW : W.heap.size = w7.heap.size + 1 := by rw [← hW]; simp
  have hme := entryP lo hi M W hMW
  have HMW := Lib.hid hMW
  have HCW := Lib.hid hCW
  clear hMW hCW
  have hX2 := Lib.hid ((Xm.of (M := M) (show Below w7.heap.size w7 W from by rw [← hW]; exact (Below.refl _ _).alloc (Nat.le_refl _) _)).trans (Xm.put W (.map (oneP lo hi (.slice none 0 0)) 1)))
  go_wp2_with (at_builtin; refine wpList_append_first _ rfl _ _ _ rfl 39 _ 2 16 Try.underlying36 infoC rfl (by omega) rfl ⟨w7.heap.size, 0, none⟩ 1 [.int .i64 x, .int .i64 y] rfl rfl (World.news_of_block (HasO.xm HCW.out (Xm.put W _) (by omega))) (by simp [Value.oneCell']) (by omega) (w7.heap.size + 1) (by simp [World.putObj, sW]) ?_; intro rc w21 hrc hown21 hb21 hl21; have hM21 : HasO w21 M (.map (oneP lo hi (.slice none 0 0)) 1) := (hb21.block M (by omega)).trans HMW.out.put; have hes := storeP lo hi (.slice none 0 0) (.slice (some ⟨w7.heap.size + 1, 0, none⟩) 1 rc) M w21 hM21)
  obtain ⟨R, hR⟩ : ∃ Z, w7.heap.size + 1 = Z := ⟨_, rfl⟩
  obtain ⟨w8, hw8⟩ : ∃ Z, w21.putObj M (.map (oneP lo hi (.slice (some ⟨w7.heap.size + 1, 0, none⟩) 1 rc)) 1) = Z := ⟨_, rfl⟩
  have X8 := Lib.hid (show Xm M w7 w8 from by rw [← hw8]; exact (hX2.out.trans (Xm.of (hb21.mono (by simp [World.putObj, sW])))).trans (Xm.put w21 _))
  have row8 : RowAt w8 R [.int .i64 x, .int .i64 y] := by rw [← hw8, ← hR]; exact (RowAt.own hown21).xm (Xm.put w21 _) (by omega)
  have zR : R < w8.heap.size := row8.1
  have mp8 : HasO w8 M (.map (oneP lo hi (.slice (some ⟨R, 0, none⟩) 1 rc)) 1) := by rw [← hw8, ← hR]; exact hM21.put
  have HLd := Lib.hid (Lst.xmMap (fun x => ⟨_, rfl⟩) HB_7.out.1 mp_7.out X8.out)
  have sea8 := Lib.hid (HasO.xm sea_7.out X8.out (by omega))
  have r18 := Lib.hid (HasO.xm r1_7.out X8.out (by omega))
  have r28 := Lib.hid (HasO.xm r2_7.out X8.out (by omega))
  have ro8 := Lib.hid (RowAt.xm ro_7.out X8.out (by omega))
  have S8 := X8.out.size
  have BB8 := Lib.hid (BB7.out.trans (X8.out.below (B := w.heap.size) (by omega) (by omega)))
  rw [hw8]
  clear hw8 hown21 hb21 hl21 hM21 hes hme HMW HCW hX2 sW hW
  clear q7pb0 q7pb1 q7pb2 q7pb3 q7cell0 q7cell1
  clear HB_7
  clear CL_7
  clear mp_7
  clear cell_7
  clear pb_7
  clear sea_7
  clear r1_7
  clear r2_7
  clear ro_7
  clear BB7
  have F8_8 := Lib.hid (show Fix w8 w8 from Below.refl _ _)
  have mp_8 := Lib.hid (mp8)
  have rr_8 := Lib.hid (row8)
  clear mp8 row8
  rw [rounds_succ]
  go_upto_region 17 with fail
  obtain ⟨T, hT⟩ : ∃ Z, w8.heap.size = Z := ⟨_, rfl⟩
  obtain ⟨w9, hw9⟩ : ∃ Z, (w8.alloc (.cells #[.slice none 0 0] 214)) = Z := ⟨_, rfl⟩
  have k9 : Below w8.heap.size w8 w9 := by rw [← hw9]; exact ((Below.refl _ _).alloc (Nat.le_refl _) _)
  have z9 : T < w9.heap.size := by rw [← hw9, ← hT]; simp
  have y9 : w8.heap.size = T := hT
  have out_9 : HasO w9 (T) (.cells #[.slice none 0 0] 214 (0, 0)) := by rw [← hw9, ← hT]; have h := (HasO.new (w := w8) (o := .cells #[.slice none 0 0] 214) rfl); simpa only [World.size_alloc] using h
  (try rw [hw9]); (try rw [hT])
  clear hw9 hT
  have S9 := k9.size
  have sea_9 := Lib.hid (sea8.out.below k9)
  have r1_9 := Lib.hid (r18.out.below k9)
  have r2_9 := Lib.hid (r28.out.below k9)
  have ro_9 := Lib.hid (ro8.out.below k9)
  have F8_9 := Lib.hid (F8_8.out.below k9)
  have mp_9 := Lib.hid (mp_8.out.below k9)
  have rr_9 := Lib.hid (rr_8.out.below k9)
  have BB9 := Lib.hid (BB8.out.trans (k9.mono BB8.out.size))
  clear k9 sea8 r18 r28 ro8 F8_8 mp_8 rr_8 BB8
  have outH_9 := Lib.hid out_9
  clear out_9
  go_wp2_with fail
  refine wp_loop_rounds 2 ?_
  rw [rounds_succ]
  have hro0 := ro_9.out.2 0 _ rfl
  have hro1 := ro_9.out.2 1 _ rfl
  have hro2 := ro_9.out.2 2 _ rfl
  have hro3 := ro_9.out.2 3 _ rfl
  go_upto_region 20 with fail
  obtain ⟨V, hV⟩ : ∃ Z, w9.heap.size = Z := ⟨_, rfl⟩
  obtain ⟨w10, hw10⟩ : ∃ Z, (w9.alloc (.cells #[.int .i64 100, .int .i64 lo, .int .i64 100, .int .i64 hi] 28)) = Z := ⟨_, rfl⟩
  have k10 : Below w9.heap.size w9 w10 := by rw [← hw10]; exact ((Below.refl _ _).alloc (Nat.le_refl _) _)
  have z10 : V < w10.heap.size := by rw [← hw10, ← hV]; simp
  have y10 : w9.heap.size = V := hV
  have pt_10 : HasO w10 (V) (.cells #[.int .i64 100, .int .i64 lo, .int .i64 100, .int .i64 hi] 28 (0, 0)) := by rw [← hw10, ← hV]; have h := (HasO.new (w := w9) (o := .cells #[.int .i64 100, .int .i64 lo, .int .i64 100, .int .i64 hi] 28) rfl); simpa only [World.size_alloc] using h
  (try rw [hw10]); (try rw [hV])
  clear hw10 hV
  have S10 := k10.size
  have sea_10 := Lib.hid (sea_9.out.below k10)
  have r1_10 := Lib.hid (r1_9.out.below k10)
  have r2_10 := Lib.hid (r2_9.out.below k10)
  have ro_10 := Lib.hid (ro_9.out.below k10)
  have F8_10 := Lib.hid (F8_9.out.below k10)
  have mp_10 := Lib.hid (mp_9.out.below k10)
  have rr_10 := Lib.hid (rr_9.out.below k10)
  have out_10 := Lib.hid (outH_9.out.below k10)
  have BB10 := Lib.hid (BB9.out.trans (k10.mono BB9.out.size))
  clear k10 sea_9 r1_9 r2_9 ro_9 F8_9 mp_9 rr_9 outH_9 BB9
  have ptH_10 := Lib.hid pt_10
  clear pt_10
  clear hro0 hro1 hro2 hro3
  have q10pt0 := HasO.cell (i := 0) ptH_10.out rfl
  have q10pt1 := HasO.cell (i := 1) ptH_10.out rfl
  have q10pt2 := HasO.cell (i := 2) ptH_10.out rfl
  have q10pt3 := HasO.cell (i := 3) ptH_10.out rfl
  have hlk := lookP1 HSd.out (.slice (some ⟨R, 0, none⟩) 1 rc) M 1 w10 mp_10.out
  go_wp2_with fail
  refine (chunk_call R rc w10).mono ?_
  rintro e wc ⟨rfl, hwc⟩
  clear hlk
  clear q10pt0 q10pt1 q10pt2 q10pt3
  rw [hwc]
  clear hwc
  obtain ⟨E, hE⟩ : ∃ Z, w10.heap.size = Z := ⟨_, rfl⟩
  obtain ⟨w11, hw11⟩ : ∃ Z, ((w10.alloc (.cells #[.slice (some ⟨R, 0, none⟩) 1 rc] 36)).alloc (.cells #[.int .i64 8192] 3)) = Z := ⟨_, rfl⟩
  have k11 : Below w10.heap.size w10 w11 := by rw [← hw11]; exact (((Below.refl _ _).alloc (Nat.le_refl _) _).alloc (by simp) _)
  have z11 : E + 1 < w11.heap.size := by rw [← hw11, ← hE]; simp
  have y11 : w10.heap.size = E := hE
  have cs_11 : HasO w11 (E) (.cells #[.slice (some ⟨R, 0, none⟩) 1 rc] 36 (0, 0)) := by rw [← hw11, ← hE]; have h := (HasO.alloc (HasO.new (w := w10) (o := .cells #[.slice (some ⟨R, 0, none⟩) 1 rc] 36) rfl) (.cells #[.int .i64 8192] 3)); simpa only [World.size_alloc] using h
  have cn_11 : HasO w11 (E + 1) (.cells #[.int .i64 8192] 3 (0, 0)) := by rw [← hw11, ← hE]; have h := (HasO.new (w := (w10.alloc (.cells #[.slice (some ⟨R, 0, none⟩) 1 rc] 36))) (o := .cells #[.int .i64 8192] 3) rfl); simpa only [World.size_alloc] using h
  (try rw [hw11]); (try rw [hE])
  clear hw11 hE
  have S11 := k11.size
  have sea_11 := Lib.hid (sea_10.out.below k11)
  have r1_11 := Lib.hid (r1_10.out.below k11)
  have r2_11 := Lib.hid (r2_10.out.below k11)
  have ro_11 := Lib.hid (ro_10.out.below k11)
  have F8_11 := Lib.hid (F8_10.out.below k11)
  have mp_11 := Lib.hid (mp_10.out.below k11)
  have rr_11 := Lib.hid (rr_10.out.below k11)
  have out_11 := Lib.hid (out_10.out.below k11)
  have pt_11 := Lib.hid (ptH_10.out.below k11)
  have BB11 := Lib.hid (BB10.out.trans (k11.mono BB10.out.size))
  clear k11 sea_10 r1_10 r2_10 ro_10 F8_10 mp_10 rr_10 out_10 ptH_10 BB10
  have csH_11 := Lib.hid cs_11
  clear cs_11
  have cnH_11 := Lib.hid cn_11
  clear cn_11
  have hseq := chunk_stops Fence.wide 8 trivial rfl (by omega) E (E + 1) T R rc hrc w11 (by omega) (by omega) (by omega) csH_11.out cnH_11.out
  go_wp2_with fail
  refine (wpIn_wide (n := 9)).1 (wpIn_rangeFunc_one (d := 23) rfl (by omega) (gf := 176) (lb := #[.pointer (some ⟨E, 0, none⟩), .pointer (some ⟨E + 1, 0, none⟩)]) rfl trivial (enters_of Try.func176 (by kernel_rfl) rfl) hseq KpC.refl KpC.t (KpC.b (by omega)) (Below.refl _ _)
    (OutG x y lo hi w11 T) (fun _ _ _ => False) (outG_own x y lo hi w11 T _ (Nat.le_refl _)) (fun _ _ _ _ _ hs _ _ => hs) ⟨Xm.refl _ _, fun _ => out_11.out, fun h => absurd rfl h⟩
    ?assign ?body ?done ?stop)
  case assign =>
    rintro l u W' K hK
    simp only [List.setIfInBounds_toArray, List.set_cons_succ, List.set_cons_zero] at hK ⊢
    have HK := Lib.hid hK
    clear hK
    gi_wp2
    exact HK.out
  case body =>
    rintro l pre u W' hl ⟨lr, hlr⟩ ⟨hx, hs1, -⟩ hlt
    simp only [List.setIfInBounds_toArray, List.set_cons_succ, List.set_cons_zero]
    obtain rfl : pre = [] := List.eq_nil_of_length_eq_zero (by omega)
    have hT := hs1 rfl
    have zz := hx.size
    have seaW := HasO.xm sea_11.out hx (by omega)
    have ptW := Lib.hid (HasO.xm pt_11.out hx (by omega))
    have HRG := Lib.hid (regionOne_dn ho L lc (.slice (some ⟨R, 0, none⟩) 1 1) W' (HLd.out.below (Below.trans F8_11.out (hx.below (B := w8.heap.size) (by omega) (by have := Below.size F8_11.out; omega)))) ((RowAt.xm rr_11.out hx (by omega)).lstC (Nat.le_refl _) (by unfold maxLen; omega)))
    have d0 := HasO.cell (i := 0) seaW rfl
    have d1 := HasO.cell (i := 1) seaW rfl
    have d2 := HasO.cell (i := 2) seaW rfl
    have d3 := HasO.cell (i := 3) seaW rfl
    have HT2 := Lib.hid hT
    have HX2 := Lib.hid hx
    clear hx hs1 hT seaW hlr
    gi_wp2_with fail
    refine ⟨trivial, (CallsIn.inRound l (callsIn_wide.2 HRG.out)).mono ?_⟩
    rintro e wa ⟨⟨A1, ca, rfl, hr⟩, hba⟩
    have za := hba.size
    have ptA := HasO.below ptW.out hba
    have HTA := Lib.hid (HasO.below HT2.out hba)
    have HXA := Lib.hid (Xm.of (M := T) hba)
    have HRA := Lib.hid hr
    have e0 := HasO.cell (i := 0) ptA rfl
    have e1 := HasO.cell (i := 1) ptA rfl
    have e2 := HasO.cell (i := 2) ptA rfl
    have e3 := HasO.cell (i := 3) ptA rfl
    have t0 := HasO.cell (i := 0) HTA.out rfl
    clear hba ptA hr d0 d1 d2 d3 HRG
    gi_wp2_with (gi_at_builtin; refine wpListIn_append_first _ rfl _ _ _ rfl 218 _ 5 56 Try.underlying214 infoG rfl (by omega) rfl ⟨wa.heap.size, 0, none⟩ 1 [.int .i64 100, .int .i64 lo, .int .i64 100, .int .i64 hi, .slice A1 1 ca] rfl rfl (newsLit (cs := #[.int .i64 100, .int .i64 lo, .int .i64 100, .int .i64 hi, .slice A1 1 ca]) rfl) (by simp [Value.oneCell']) (by omega) (wa.heap.size + 1) (by simp) ?_; intro gc wb hgc hownb hbb hlb; have HTB := Lib.hid ((HasO.alloc HTA.out (.cells #[.int .i64 100, .int .i64 lo, .int .i64 100, .int .i64 hi, .slice A1 1 ca] 218)).below (hbb.mono (by simp))); have f0 := HasO.cell (i := 0) HTB.out rfl; have ff0 := HasO.frozen (i := 0) HTB.out)
    have kab : Below wa.heap.size wa wb := ((Below.refl _ _).alloc (Nat.le_refl _) _).trans (hbb.mono (by omega))
    have hXX := (HXA.out.trans (Xm.of kab)).trans (Xm.set (M := T) (i := 0) wb (.slice (some ⟨wa.heap.size + 1, 0, none⟩) 1 gc))
    have kk := keepOne (n₀ := T) (B := w11.heap.size) hXX HT2.out (by decide) (Nat.le_refl _)
    refine ⟨kk.1, kk.2, HX2.out.trans hXX, fun e => by simp at e, fun _ => ?_⟩
    have hg := (RowAt.own hownb).xm (Xm.set (M := T) (i := 0) wb (.slice (some ⟨wa.heap.size + 1, 0, none⟩) 1 gc)) (by omega)
    exact ⟨wa.heap.size + 1, gc, A1, ca, HTB.out.set, by omega, ⟨hg.1, hg.2 0 _ rfl, hg.2 1 _ rfl, hg.2 2 _ rfl, hg.2 3 _ rfl, hg.2 4 _ rfl⟩, (Runs.xmOne (HRA.out.below kab) HTB.out (Xm.set _ _))⟩
  case stop =>
    rintro D c pre W' _ _ h _
    exact h.elim
  case done =>
    rintro D ys W' hD rfl ⟨hx, -, hs⟩ hK
    obtain ⟨G, gc, R1, rc1, hT, hG, hGA, hRR⟩ := hs (by simp)
    have zz := hx.size
    have r1W := HasO.xm r1_11.out hx (by omega)
    have r2W := HasO.xm r2_11.out hx (by omega)
    have t0 := HasO.cell (i := 0) hT rfl
    have p0 := HasO.cell (i := 0) r1W rfl
    have p1 := HasO.frozen (i := 0) r1W
    have p2 := HasO.cell (i := 0) r2W rfl
    have p3 := HasO.frozen (i := 0) r2W
    have HR1 := Lib.hid r1W
    have HR2 := Lib.hid r2W
    have HBW := Lib.hid (BB11.out.trans (hx.below (B := w.heap.size) (by omega) (by omega)))
    have HK := Lib.hid (show HasO W' D (.deferred (some [])) from hK)
    have HT2 := Lib.hid hT
    have HGA := Lib.hid hGA
    have HRR := Lib.hid hRR
    clear hx hT hGA hRR hs r1W r2W hK hseq
    dsimp only
    go_wp2_with fail
    rw [rounds_succ]
    go_wp2_with fail
    have hne := HK.out.ne_cell rfl HGA.out.2.1
    have zG := HGA.out.1
    obtain ⟨W1, hW1⟩ : ∃ z, W'.setCell ⟨Z + 1, 0, none⟩ (.slice (some ⟨G, 0, none⟩) 1 gc) = z := ⟨_, rfl⟩
    have X1 : Xm (Z + 1) W' W1 := by rw [← hW1]; exact Xm.set _ _
    have HR1' : HasO W1 (Z + 1) (.cells #[.slice (some ⟨G, 0, none⟩) 1 gc] 214 (0, 0)) := by rw [← hW1]; exact HR1.out.set
    have HR2' := HasO.xm HR2.out X1 (by omega)
    rw [hW1]
    obtain ⟨W2, hW2⟩ : ∃ z, W1.setCell ⟨Z + 1 + 1, 0, none⟩ (.int .i64 0) = z := ⟨_, rfl⟩
    have X2 : Xm (Z + 1 + 1) W1 W2 := by rw [← hW2]; exact Xm.set _ _
    have HR2b : HasO W2 (Z + 1 + 1) (.cells #[.int .i64 0] 33 (0, 0)) := by rw [← hW2]; exact HR2'.set
    have HR1b := HasO.xm HR1' X2 (by omega)
    rw [hW2]
    have HKb := HasO.xm (HasO.xm HK.out X1 (by omega)) X2 (by omega)
    refine ⟨by simp, .inl ⟨_, _, rfl, run_takeDeferred HKb, ?_⟩⟩
    have X3 : Xm D W2 (W2.putObj D (.deferred none)) := Xm.put _ _
    have c1 := HasO.cell (i := 0) (HasO.xm HR1b X3 (by omega)) rfl
    have c2 := HasO.cell (i := 0) (HasO.xm HR2b X3 (by omega)) rfl
    refine ⟨.tuple #[.slice (some ⟨G, 0, none⟩) 1 gc, .int .i64 0], by simp [results, Try.results140, go_sem, c1, c2], ?_⟩
    have z1' := X1.size
    have z2' := X2.size
    exact ⟨⟨G, gc, R1, rc1, rfl, ((HGA.out.xm X1 (by omega)).xm X2 (by omega)).xm X3 hne, ((HRR.out.xmOne HR1.out X1).xmOne HR2' X2).xmNC (fun x => ⟨_, rfl⟩) HKb rfl X3⟩, ((HBW.out.trans (X1.below (B := w.heap.size) (by omega) (by omega))).trans (X2.below (B := w.heap.size) (by omega) (by omega))).trans (X3.below (B := w.heap.size) (by omega) (by omega))⟩

theorem cells_nil : cellsL [] = [] := rfl
set_option maxRecDepth 100000 in
set_option maxHeartbeats 16000000 in
theorem groups_nil (side : Int) (L Av : Option Addr) (lc b1 b2 n cv : Nat) (t : Int) (w : World) (hL : Runs w (.slice L 5 lc) landB) (hv : Runs w (.slice Av n cv) []) :
    Calls Try.prog 140 #[.agg #[.int .i64 5, .int .i64 5, .int .i64 100, .slice L 5 lc, .slice (some ⟨b1, 0, none⟩) 1 1, .slice (some ⟨b2, 0, none⟩) 1 1, .int .i64 20, .int .i64 20, .int .i64 10, .int .i64 20, .bool false], .slice Av n cv, .int .i64 side, .int .i64 t, .int .i64 1000] w fun e w' => e = .returned (.tuple #[.slice none 0 0, .int .i64 0]) ∧ Below w.heap.size w w' := by
  have HL_0 := Lib.hid hL
  have HV_0 := Lib.hid hv
  have BB0 := Lib.hid (Below.refl w.heap.size w)
  clear hL hv
  go_enter Try.func140, Try.ntmps140
  go_upto_region 1 with fail
  obtain ⟨Z, hZ⟩ : ∃ Z, w.heap.size = Z := ⟨_, rfl⟩
  obtain ⟨w1, hw1⟩ : ∃ Z, (((w.alloc (.cells #[.int .i64 5, .int .i64 5, .int .i64 100, .slice L 5 lc, .slice (some ⟨b1, 0, none⟩) 1 1, .slice (some ⟨b2, 0, none⟩) 1 1, .int .i64 20, .int .i64 20, .int .i64 10, .int .i64 20, .bool false] 165)).alloc (.cells #[.slice none 0 0] 214)).alloc (.cells #[.int .i64 0] 33)) = Z := ⟨_, rfl⟩
  have k1 : Below w.heap.size w w1 := by rw [← hw1]; exact ((((Below.refl _ _).alloc (Nat.le_refl _) _).alloc (by simp) _).alloc (by simp; omega) _)
  have z1 : Z + 1 + 1 < w1.heap.size := by rw [← hw1, ← hZ]; simp
  have y1 : w.heap.size = Z := hZ
  have sea_1 : HasO w1 (Z) (.cells #[.int .i64 5, .int .i64 5, .int .i64 100, .slice L 5 lc, .slice (some ⟨b1, 0, none⟩) 1 1, .slice (some ⟨b2, 0, none⟩) 1 1, .int .i64 20, .int .i64 20, .int .i64 10, .int .i64 20, .bool false] 165 (0, 0)) := by rw [← hw1, ← hZ]; have h := (HasO.alloc (HasO.alloc (HasO.new (w := w) (o := .cells #[.int .i64 5, .int .i64 5, .int .i64 100, .slice L 5 lc, .slice (some ⟨b1, 0, none⟩) 1 1, .slice (some ⟨b2, 0, none⟩) 1 1, .int .i64 20, .int .i64 20, .int .i64 10, .int .i64 20, .bool false] 165) rfl) (.cells #[.slice none 0 0] 214)) (.cells #[.int .i64 0] 33)); simpa only [World.size_alloc] using h
  have r1_1 : HasO w1 (Z + 1) (.cells #[.slice none 0 0] 214 (0, 0)) := by rw [← hw1, ← hZ]; have h := (HasO.alloc (HasO.new (w := (w.alloc (.cells #[.int .i64 5, .int .i64 5, .int .i64 100, .slice L 5 lc, .slice (some ⟨b1, 0, none⟩) 1 1, .slice (some ⟨b2, 0, none⟩) 1 1, .int .i64 20, .int .i64 20, .int .i64 10, .int .i64 20, .bool false] 165))) (o := .cells #[.slice none 0 0] 214) rfl) (.cells #[.int .i64 0] 33)); simpa only [World.size_alloc] using h
  have r2_1 : HasO w1 (Z + 1 + 1) (.cells #[.int .i64 0] 33 (0, 0)) := by rw [← hw1, ← hZ]; have h := (HasO.new (w := ((w.alloc (.cells #[.int .i64 5, .int .i64 5, .int .i64 100, .slice L 5 lc, .slice (some ⟨b1, 0, none⟩) 1 1, .slice (some ⟨b2, 0, none⟩) 1 1, .int .i64 20, .int .i64 20, .int .i64 10, .int .i64 20, .bool false] 165)).alloc (.cells #[.slice none 0 0] 214))) (o := .cells #[.int .i64 0] 33) rfl); simpa only [World.size_alloc] using h
  (try rw [hw1]); (try rw [hZ])
  clear hw1 hZ
  have S1 := k1.size
  have HL_1 := Lib.hid (HL_0.out.below k1)
  have HV_1 := Lib.hid (HV_0.out.below k1)
  have BB1 := Lib.hid (BB0.out.trans (k1.mono BB0.out.size))
  clear k1 HL_0 HV_0 BB0
  have seaH_1 := Lib.hid sea_1
  clear sea_1
  have r1H_1 := Lib.hid r1_1
  clear r1_1
  have r2H_1 := Lib.hid r2_1
  clear r2_1
  have q1sea0 := HasO.cell (i := 0) seaH_1.out rfl
  have q1sea1 := HasO.cell (i := 1) seaH_1.out rfl
  have q1sea2 := HasO.cell (i := 2) seaH_1.out rfl
  have q1sea3 := HasO.cell (i := 3) seaH_1.out rfl
  go_wp2_with fail
  refine (cells_dn L Av lc n cv [] _ HL_1.out HV_1.out (by decide +kernel)).mono ?_
  rintro e w2 ⟨⟨C, cc, rfl, -⟩, hb2⟩
  have k2 : Below w1.heap.size w1 w2 := hb2
  clear hb2
  have S2 := k2.size
  have HL_2 := Lib.hid (HL_1.out.below k2)
  have HV_2 := Lib.hid (HV_1.out.below k2)
  have sea_2 := Lib.hid (seaH_1.out.below k2)
  have r1_2 := Lib.hid (r1H_1.out.below k2)
  have r2_2 := Lib.hid (r2H_1.out.below k2)
  have BB2 := Lib.hid (BB1.out.trans (k2.mono BB1.out.size))
  clear k2 HL_1 HV_1 seaH_1 r1H_1 r2H_1 BB1
  clear q1sea0 q1sea1 q1sea2 q1sea3
  rw [cells_nil]
  simp only [List.length_nil]
  have hmk := makeP w2
  go_upto_region 5 with fail
  clear hmk
  obtain ⟨M, hM⟩ : ∃ Z, w2.heap.size = Z := ⟨_, rfl⟩
  obtain ⟨w3, hw3⟩ : ∃ Z, (w2.alloc (.map #[] 0)) = Z := ⟨_, rfl⟩
  have k3 : Below w2.heap.size w2 w3 := by rw [← hw3]; exact ((Below.refl _ _).alloc (Nat.le_refl _) _)
  have z3 : M < w3.heap.size := by rw [← hw3, ← hM]; simp
  have y3 : w2.heap.size = M := hM
  have mp_3 : HasO w3 (M) (.map #[] 0) := by rw [← hw3, ← hM]; have h := (HasO.new (w := w2) (o := .map #[] 0) rfl); simpa only [World.size_alloc] using h
  (try rw [hw3]); (try rw [hM])
  clear hw3 hM
  have S3 := k3.size
  have HL_3 := Lib.hid (HL_2.out.below k3)
  have HV_3 := Lib.hid (HV_2.out.below k3)
  have sea_3 := Lib.hid (sea_2.out.below k3)
  have r1_3 := Lib.hid (r1_2.out.below k3)
  have r2_3 := Lib.hid (r2_2.out.below k3)
  have BB3 := Lib.hid (BB2.out.trans (k3.mono BB2.out.size))
  clear k3 HL_2 HV_2 sea_2 r1_2 r2_2 BB2
  have mpH_3 := Lib.hid mp_3
  clear mp_3
  go_wp2_with fail
  refine wp_loop_rounds 1 ?_
  rw [rounds_succ]
  go_upto_region 17 with fail
  obtain ⟨T, hT⟩ : ∃ Z, w3.heap.size = Z := ⟨_, rfl⟩
  obtain ⟨w4, hw4⟩ : ∃ Z, (w3.alloc (.cells #[.slice none 0 0] 214)) = Z := ⟨_, rfl⟩
  have k4 : Below w3.heap.size w3 w4 := by rw [← hw4]; exact ((Below.refl _ _).alloc (Nat.le_refl _) _)
  have z4 : T < w4.heap.size := by rw [← hw4, ← hT]; simp
  have y4 : w3.heap.size = T := hT
  have out_4 : HasO w4 (T) (.cells #[.slice none 0 0] 214 (0, 0)) := by rw [← hw4, ← hT]; have h := (HasO.new (w := w3) (o := .cells #[.slice none 0 0] 214) rfl); simpa only [World.size_alloc] using h
  (try rw [hw4]); (try rw [hT])
  clear hw4 hT
  have S4 := k4.size
  have HL_4 := Lib.hid (HL_3.out.below k4)
  have HV_4 := Lib.hid (HV_3.out.below k4)
  have sea_4 := Lib.hid (sea_3.out.below k4)
  have r1_4 := Lib.hid (r1_3.out.below k4)
  have r2_4 := Lib.hid (r2_3.out.below k4)
  have mp_4 := Lib.hid (mpH_3.out.below k4)
  have BB4 := Lib.hid (BB3.out.trans (k4.mono BB3.out.size))
  clear k4 HL_3 HV_3 sea_3 r1_3 r2_3 mpH_3 BB3
  have outH_4 := Lib.hid out_4
  clear out_4
  go_wp2_with fail
  refine wp_loop_rounds 1 ?_
  rw [rounds_succ]
  have q4out0 := HasO.cell (i := 0) outH_4.out rfl
  have q4r10 := HasO.cell (i := 0) r1_4.out rfl
  have q4r1f0 := HasO.frozen (i := 0) r1_4.out
  have q4r20 := HasO.cell (i := 0) r2_4.out rfl
  have q4r2f0 := HasO.frozen (i := 0) r2_4.out
  go_wp2_with fail
  obtain ⟨W1, hW1⟩ : ∃ z, w4.setCell ⟨Z + 1, 0, none⟩ (.slice none 0 0) = z := ⟨_, rfl⟩
  have X1 : Xm (Z + 1) w4 W1 := by rw [← hW1]; exact Xm.set _ _
  have HR1' : HasO W1 (Z + 1) (.cells #[.slice none 0 0] 214 (0, 0)) := by rw [← hW1]; exact HasO.set r1_4.out
  have HR2' := HasO.xm r2_4.out X1 (by omega)
  rw [hW1]
  obtain ⟨W2, hW2⟩ : ∃ z, W1.setCell ⟨Z + 1 + 1, 0, none⟩ (.int .i64 0) = z := ⟨_, rfl⟩
  have X2 : Xm (Z + 1 + 1) W1 W2 := by rw [← hW2]; exact Xm.set _ _
  have HR2b : HasO W2 (Z + 1 + 1) (.cells #[.int .i64 0] 33 (0, 0)) := by rw [← hW2]; exact HR2'.set
  have HR1b := HasO.xm HR1' X2 (by omega)
  rw [hW2]
  have c1 := HasO.cell (i := 0) HR1b rfl
  have c2 := HasO.cell (i := 0) HR2b rfl
  have z1' := X1.size
  refine bodyPost_ret (v := .tuple #[.slice none 0 0, .int .i64 0]) (by simp [results, Try.results140, go_sem, c1, c2]) rfl ⟨rfl, ?_⟩
  exact (BB4.out.trans (X1.below (B := w.heap.size) (by omega) (by omega))).trans (X2.below (B := w.heap.size) (by omega) (by omega))
end Go.Proofs.Ytnbdnnbeiohmgaa
