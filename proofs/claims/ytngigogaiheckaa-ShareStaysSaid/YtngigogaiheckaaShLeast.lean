/- share: the first in the order of show: show$1 to show$4, least, slices.MinFunc. -/
import Derived.Test.YtngigogaiheckaaShSince
namespace Go.Proofs.Ytngigogaiheckaa
open Go.RowKit Go.Lib Go.Maps

set_option maxRecDepth 100000 in
theorem show1_sh (a b : Sd) (ha : SdOK a) (hb : SdOK b) (w : World) : Calls Try.prog 53 #[valSd a, valSd b] w fun e w' => e = .returned (.int .i64 (b.trust - a.trust)) ∧ Below w.heap.size w w' := by
  have h1 := ha.trust
  have h2 := hb.trust
  clear ha hb
  obtain ⟨ac, an, akey, aval, atime, atrust, aback⟩ := a
  obtain ⟨bc, bn, bkey, bval, btime, btrust, bback⟩ := b
  dsimp only [valSd] at *
  have hw : IntKind.i64.wrap (btrust - atrust) = btrust - atrust := wrapK _ (by omega) (by omega)
  go_enter Try.func53, Try.ntmps53
  go_wp2_with fail
  go_ret
  exact ⟨rfl, ((Below.refl _ _).alloc (Nat.le_refl _) _).alloc (by simp) _⟩
set_option maxRecDepth 100000 in
theorem show2_sh (a b : Sd) (ha : SdOK a) (hb : SdOK b) (w : World) : Calls Try.prog 54 #[valSd a, valSd b] w fun e w' => e = .returned (.int .i64 (b.time - a.time)) ∧ Below w.heap.size w w' := by
  have h1 := ha.time
  have h2 := hb.time
  clear ha hb
  obtain ⟨ac, an, akey, aval, atime, atrust, aback⟩ := a
  obtain ⟨bc, bn, bkey, bval, btime, btrust, bback⟩ := b
  dsimp only [valSd] at *
  have hw : IntKind.i64.wrap (btime - atime) = btime - atime := wrapK _ (by omega) (by omega)
  go_enter Try.func54, Try.ntmps54
  go_wp2_with fail
  go_ret
  exact ⟨rfl, ((Below.refl _ _).alloc (Nat.le_refl _) _).alloc (by simp) _⟩
set_option maxRecDepth 100000 in
theorem show3_sh (a b : Sd) (ha : SdOK a) (hb : SdOK b) (w : World) : Calls Try.prog 55 #[valSd a, valSd b] w fun e w' => e = .returned (.int .i64 (a.c - b.c)) ∧ Below w.heap.size w w' := by
  have h1 := ha.c
  have h2 := hb.c
  clear ha hb
  obtain ⟨ac, an, akey, aval, atime, atrust, aback⟩ := a
  obtain ⟨bc, bn, bkey, bval, btime, btrust, bback⟩ := b
  dsimp only [valSd] at *
  have hw : IntKind.i64.wrap (ac - bc) = ac - bc := wrapK _ (by omega) (by omega)
  go_enter Try.func55, Try.ntmps55
  go_wp2_with fail
  go_ret
  exact ⟨rfl, ((Below.refl _ _).alloc (Nat.le_refl _) _).alloc (by simp) _⟩
set_option maxRecDepth 100000 in
theorem show4_sh (a b : Sd) (ha : SdOK a) (hb : SdOK b) (w : World) : Calls Try.prog 56 #[valSd a, valSd b] w fun e w' => e = .returned (.int .i64 (b.n - a.n)) ∧ Below w.heap.size w w' := by
  have h1 := ha.n
  have h2 := hb.n
  clear ha hb
  obtain ⟨ac, an, akey, aval, atime, atrust, aback⟩ := a
  obtain ⟨bc, bn, bkey, bval, btime, btrust, bback⟩ := b
  dsimp only [valSd] at *
  have hw : IntKind.i64.wrap (bn - an) = bn - an := wrapK _ (by omega) (by omega)
  go_enter Try.func56, Try.ntmps56
  go_wp2_with fail
  go_ret
  exact ⟨rfl, ((Below.refl _ _).alloc (Nat.le_refl _) _).alloc (by simp) _⟩
/-- the four orders, in a row -/
def ordF : Nat → FuncId
  | 0 => 53
  | 1 => 54
  | 2 => 55
  | _ => 56
def ordN (a b : Sd) : Nat → Int
  | 0 => b.trust - a.trust
  | 1 => b.time - a.time
  | 2 => a.c - b.c
  | _ => b.n - a.n
theorem ord_sh (k : Nat) (a b : Sd) (ha : SdOK a) (hb : SdOK b) (w : World) : Calls Try.prog (ordF k) #[valSd a, valSd b] w fun e w' => e = .returned (.int .i64 (ordN a b k)) ∧ Below w.heap.size w w' := by
  rcases k with - | - | - | k
  · exact show1_sh a b ha hb w
  · exact show2_sh a b ha hb w
  · exact show3_sh a b ha hb w
  · exact show4_sh a b ha hb w
theorem ord_cmp {a b : Sd} {k : Nat} (hk : k < 4) (h : ∀ j, j < k → ordN a b j = 0) (h0 : ordN a b k ≠ 0) : cmpSd a b = ordN a b k := by
  unfold cmpSd
  have q := fun j hj => h j hj
  rcases k with - | - | - | - | k
  · simp only [ordN] at *
    rw [if_pos h0]
  · have e0 := h 0 (by omega)
    simp only [ordN] at *
    rw [if_neg (by omega), if_pos h0]
  · have e0 := h 0 (by omega)
    have e1 := h 1 (by omega)
    simp only [ordN] at *
    rw [if_neg (by omega), if_neg (by omega), if_pos h0]
  · have e0 := h 0 (by omega)
    have e1 := h 1 (by omega)
    have e2 := h 2 (by omega)
    simp only [ordN] at *
    rw [if_neg (by omega), if_neg (by omega), if_neg (by omega)]
  · omega
theorem ord_none {a b : Sd} (h : ∀ j, j < 4 → ordN a b j = 0) : cmpSd a b = 0 := by
  have e0 := h 0 (by omega)
  have e1 := h 1 (by omega)
  have e2 := h 2 (by omega)
  have e3 := h 3 (by omega)
  simp only [ordN] at *
  unfold cmpSd
  rw [if_neg (by omega), if_neg (by omega), if_neg (by omega)]
  exact e3

theorem BoxS.cells {W : World} {B : Nat} {x : Sd} (h : BoxS W B x) : W.cell? ⟨B, 0, none⟩ = some (.int .i64 x.c) ∧ W.cell? ⟨B, 1, none⟩ = some (.int .i64 x.n) ∧ W.cell? ⟨B, 2, none⟩ = some (.string x.key) ∧ W.cell? ⟨B, 3, none⟩ = some (.string x.val) ∧ W.cell? ⟨B, 4, none⟩ = some (.int .i64 x.time) ∧ W.cell? ⟨B, 5, none⟩ = some (.int .i64 x.trust) ∧ W.cell? ⟨B, 6, none⟩ = some (.int .i64 x.back) := by
  unfold BoxS at h
  refine ⟨?_, ?_, ?_, ?_, ?_, ?_, ?_⟩ <;> simp [World.cell?, h]
theorem BoxS.below {W W' : World} {B N : Nat} {x : Sd} (h : BoxS W B x) (hb : Below N W W') (hN : B < N) : BoxS W' B x := (hb.block B hN).trans h

set_option maxRecDepth 100000 in
set_option maxHeartbeats 4000000 in
theorem least1_sh (a b : Sd) (ha : SdOK a) (hb : SdOK b) (w : World) (X Y : Nat) (hX : w.cell? ⟨X, 0, none⟩ = some (.slice (some ⟨Y, 0, none⟩) 4 4)) (hXl : X < w.heap.size) (hYl : Y < w.heap.size) (hY : ∀ k, k < 4 → w.cell? ⟨Y, k, none⟩ = some (.func (.func (ordF k)) #[] #[])) :
    Calls Try.prog 70 #[valSd a, valSd b, .pointer (some ⟨X, 0, none⟩)] w fun e w' => e = .returned (.int .i64 (cmpSd a b)) ∧ Below w.heap.size w w' := by
  have HO := Lib.hid (fun k W => ord_sh k a b ha hb W)
  have HY := Lib.hid hY
  have HN := Lib.hid (fun k => @ord_cmp a b k)
  have HZ := Lib.hid (@ord_none a b)
  clear hY ha hb
  generalize cmpSd a b = cm at *
  generalize ordN a b = on at *
  obtain ⟨ac, an, akey, aval, atime, atrust, aback⟩ := a
  obtain ⟨bc, bn, bkey, bval, btime, btrust, bback⟩ := b
  dsimp only [valSd] at *
  go_enter Try.func70, Try.ntmps70
  go_upto_region 1 with fail
  have ha := heap_alloc_new w (.cells #[.int .i64 ac, .int .i64 an, .string akey, .string aval, .int .i64 atime, .int .i64 atrust, .int .i64 aback] 38)
  obtain ⟨w1, hw1⟩ : ∃ W, w.alloc (.cells #[.int .i64 ac, .int .i64 an, .string akey, .string aval, .int .i64 atime, .int .i64 atrust, .int .i64 aback] 38) = W := ⟨_, rfl⟩
  have hz1 : w1.heap.size = w.heap.size + 1 := by rw [← hw1]; simp
  have hb1 : Below w.heap.size w w1 := by rw [← hw1]; exact (Below.refl _ _).alloc (Nat.le_refl _) _
  rw [hw1] at ha ⊢
  have hbx := heap_alloc_new w1 (.cells #[.int .i64 bc, .int .i64 bn, .string bkey, .string bval, .int .i64 btime, .int .i64 btrust, .int .i64 bback] 38)
  obtain ⟨w2, hw2⟩ : ∃ W, w1.alloc (.cells #[.int .i64 bc, .int .i64 bn, .string bkey, .string bval, .int .i64 btime, .int .i64 btrust, .int .i64 bback] 38) = W := ⟨_, rfl⟩
  have hz2 : w2.heap.size = w1.heap.size + 1 := by rw [← hw2]; simp
  have hb2 : Below w1.heap.size w1 w2 := by rw [← hw2]; exact (Below.refl _ _).alloc (Nat.le_refl _) _
  rw [hw2] at hbx ⊢
  have ha := (hb2.block _ (by omega)).trans ha
  have HB0 := Lib.hid (hb1.trans (hb2.mono (by omega)))
  have hX := (HB0.out.cell (p := ⟨X, 0, none⟩) hXl).trans hX
  have HY := Lib.hid (fun k hk => (HB0.out.cell (p := ⟨Y, k, none⟩) hYl).trans (HY.out k hk))
  rw [hz1] at hbx
  obtain ⟨P0, hP0⟩ : ∃ P, w.heap.size = P := ⟨_, rfl⟩
  rw [hP0] at ha hbx hz1 hXl hYl ⊢
  clear hw1 hw2 hb1 hb2
  go_wp2_with fail
  go_loopw [11] (fun i wr => ∃ k : Nat, k ≤ 4 ∧ i = .int .i64 k ∧ (∀ j, j < k → on j = 0) ∧ Below w2.heap.size w2 wr) (fun i _ => 4 - (intOf i).toNat)
  case atStart => exact ⟨0, by omega, rfl, fun j hj => by omega, Below.refl _ _⟩
  case round =>
    obtain ⟨k, hk, rfl, hz, hbr⟩ := hrel
    have ha := BoxS.cells (x := ⟨ac, an, akey, aval, atime, atrust, aback⟩) ((hbr.block P0 (by omega)).trans ha)
    have hbx := BoxS.cells (x := ⟨bc, bn, bkey, bval, btime, btrust, bback⟩) ((hbr.block (P0 + 1) (by omega)).trans hbx)
    obtain ⟨a0, a1, a2, a3, a4, a5, a6⟩ := ha
    obtain ⟨b0, b1, b2, b3, b4, b5, b6⟩ := hbx
    dsimp only at a0 a1 a2 a3 a4 a5 a6 b0 b1 b2 b3 b4 b5 b6
    have hk' : k = 0 ∨ k = 1 ∨ k = 2 ∨ k = 3 ∨ k = 4 := by omega
    rcases hk' with rfl | rfl | rfl | rfl | rfl
    · have y := HY.out 0 (by omega)
      rw [show ordF 0 = 53 from rfl] at y
      have y := (hbr.cell (p := ⟨Y, 0, none⟩) (by show Y < _; omega)).trans y
      go_wp2_with fail
      refine (HO.out 0 _).mono ?_
      rintro e w3 ⟨rfl, hb3⟩
      obtain ⟨o, ho⟩ : ∃ o, on 0 = o := ⟨_, rfl⟩
      have HN1 := Lib.hid (HN.out 0 (by omega) hz)
      rw [ho] at HN1 ⊢
      by_cases h0 : o = 0
      · subst h0
        go_wp2_with fail
        go_roundw
        case rel =>
          refine ⟨1, by omega, by simp, fun j hj => ?_, hbr.trans (hb3.mono hbr.size)⟩
          rcases Nat.lt_succ_iff_lt_or_eq.1 hj with h | h
          · exact hz j h
          · rw [h]; exact ho
        case measure => simp [intOf]
      · have hd : decide (o = 0) = false := by simp [h0]
        go_wp2_with fail
        go_ret
        rw [HN1.out h0]
        exact ⟨rfl, HB0.out.trans ((hbr.trans (hb3.mono hbr.size)).mono HB0.out.size)⟩
    · have y := HY.out 1 (by omega)
      rw [show ordF 1 = 54 from rfl] at y
      have y := (hbr.cell (p := ⟨Y, 1, none⟩) (by show Y < _; omega)).trans y
      go_wp2_with fail
      refine (HO.out 1 _).mono ?_
      rintro e w3 ⟨rfl, hb3⟩
      obtain ⟨o, ho⟩ : ∃ o, on 1 = o := ⟨_, rfl⟩
      have HN1 := Lib.hid (HN.out 1 (by omega) hz)
      rw [ho] at HN1 ⊢
      by_cases h0 : o = 0
      · subst h0
        go_wp2_with fail
        go_roundw
        case rel =>
          refine ⟨2, by omega, by simp, fun j hj => ?_, hbr.trans (hb3.mono hbr.size)⟩
          rcases Nat.lt_succ_iff_lt_or_eq.1 hj with h | h
          · exact hz j h
          · rw [h]; exact ho
        case measure => simp [intOf]
      · have hd : decide (o = 0) = false := by simp [h0]
        go_wp2_with fail
        go_ret
        rw [HN1.out h0]
        exact ⟨rfl, HB0.out.trans ((hbr.trans (hb3.mono hbr.size)).mono HB0.out.size)⟩
    · have y := HY.out 2 (by omega)
      rw [show ordF 2 = 55 from rfl] at y
      have y := (hbr.cell (p := ⟨Y, 2, none⟩) (by show Y < _; omega)).trans y
      go_wp2_with fail
      refine (HO.out 2 _).mono ?_
      rintro e w3 ⟨rfl, hb3⟩
      obtain ⟨o, ho⟩ : ∃ o, on 2 = o := ⟨_, rfl⟩
      have HN1 := Lib.hid (HN.out 2 (by omega) hz)
      rw [ho] at HN1 ⊢
      by_cases h0 : o = 0
      · subst h0
        go_wp2_with fail
        go_roundw
        case rel =>
          refine ⟨3, by omega, by simp, fun j hj => ?_, hbr.trans (hb3.mono hbr.size)⟩
          rcases Nat.lt_succ_iff_lt_or_eq.1 hj with h | h
          · exact hz j h
          · rw [h]; exact ho
        case measure => simp [intOf]
      · have hd : decide (o = 0) = false := by simp [h0]
        go_wp2_with fail
        go_ret
        rw [HN1.out h0]
        exact ⟨rfl, HB0.out.trans ((hbr.trans (hb3.mono hbr.size)).mono HB0.out.size)⟩
    · have y := HY.out 3 (by omega)
      rw [show ordF 3 = 56 from rfl] at y
      have y := (hbr.cell (p := ⟨Y, 3, none⟩) (by show Y < _; omega)).trans y
      go_wp2_with fail
      refine (HO.out 3 _).mono ?_
      rintro e w3 ⟨rfl, hb3⟩
      obtain ⟨o, ho⟩ : ∃ o, on 3 = o := ⟨_, rfl⟩
      have HN1 := Lib.hid (HN.out 3 (by omega) hz)
      rw [ho] at HN1 ⊢
      by_cases h0 : o = 0
      · subst h0
        go_wp2_with fail
        go_roundw
        case rel =>
          refine ⟨4, by omega, by simp, fun j hj => ?_, hbr.trans (hb3.mono hbr.size)⟩
          rcases Nat.lt_succ_iff_lt_or_eq.1 hj with h | h
          · exact hz j h
          · rw [h]; exact ho
        case measure => simp [intOf]
      · have hd : decide (o = 0) = false := by simp [h0]
        go_wp2_with fail
        go_ret
        rw [HN1.out h0]
        exact ⟨rfl, HB0.out.trans ((hbr.trans (hb3.mono hbr.size)).mono HB0.out.size)⟩
    · have hc := HZ.out hz
      go_wp2_with fail
      go_ret
      rw [hc]
      exact ⟨rfl, HB0.out.trans (hbr.mono HB0.out.size)⟩
end Go.Proofs.Ytngigogaiheckaa
