/- The walk of the law TracksRings. -/
import Derived.Test.YtnbdnnbeiohmgaaDoorTkPlain
import Derived.Test.YtnbdnnbeiohmgaaDoorTkAlive
import Derived.Test.YtnbdnnbeiohmgaaDoorTkCheck
namespace Go.Proofs.YtnbdnnbeiohmgaaDoor
open Go.RowKit

set_option maxRecDepth 100000 in
set_option maxHeartbeats 8000000 in
theorem rings_tk (x y d : Int) (r q a b : Nat) (w : World) (hx : -9223372036854775808 ≤ x ∧ x ≤ 9223372036854775807) (hy : -9223372036854775808 ≤ y ∧ y ≤ 9223372036854775807)
    (hr : r < 256) (hq : q < 256) (ha : a < 4294967296) (hb : b < 4294967296) (hs : Sides w) (ht : Star w) :
    Calls Tryd.prog 3 #[.agg #[.int .i64 x, .int .i64 y], .int .i64 d, .int .u8 r, .int .u8 q, .agg #[.int .u32 a, .int .u32 b]] w fun e w' => e = .returned (.bool true) ∧ Below w.heap.size w w' := by
  obtain ⟨m, hm, hm1, hm2⟩ : ∃ m : Nat, 1 + r % 30 = m ∧ 1 ≤ m ∧ m ≤ 30 := ⟨_, rfl, by omega, by omega⟩
  obtain ⟨n, hn, hn1, hn2⟩ : ∃ n : Nat, 1 + q % 12 = n ∧ 1 ≤ n ∧ n ≤ 12 := ⟨_, rfl, by omega, by omega⟩
  have em : Int.tmod (r : Int) 30 = (m : Int) - 1 := by rw [Int.tmod_eq_emod_of_nonneg (by omega)]; omega
  have en : Int.tmod (q : Int) 12 = (n : Int) - 1 := by rw [Int.tmod_eq_emod_of_nonneg (by omega)]; omega
  go_enter Tryd.func3, Tryd.ntmps3
  go_wp2_with fail
  refine (alive_tk _).mono ?_
  rintro e w1 ⟨rfl, hb1⟩
  have c0 := hb1.cell (p := ⟨w.heap.size, 0, none⟩) (by simp <;> omega)
  have c1 := hb1.cell (p := ⟨w.heap.size, 1, none⟩) (by simp <;> omega)
  have c2 := hb1.cell (p := ⟨w.heap.size + 1, 0, none⟩) (by simp <;> omega)
  have c3 := hb1.cell (p := ⟨w.heap.size + 1, 1, none⟩) (by simp <;> omega)
  have hz := hb1.size
  simp [go_sem] at c0 c1 c2 c3 hz
  have B1 : Below w.heap.size w w1 := (((Below.refl w.heap.size w).alloc (Nat.le_refl _) (.cells #[.int .i64 x, .int .i64 y] 23)).alloc (by simp <;> omega) _).trans (hb1.mono (by simp <;> omega))
  have hs1 := hs.below B1
  have ht1 := ht.below B1
  clear hb1
  have e4 : IntKind.i64.wrap (4 * (m : Int)) = 4 * (m : Int) := by rw [IntWalk.i64_left]; exact w64 _ (by omega) (by omega)
  go_wp2_with fail
  have em' : (1 : Int) + ((m : Int) - 1) = (m : Int) := by omega
  have em4 : 4 * (m : Int) + 1 = ((4 * m + 1 : Nat) : Int) := by omega
  rw [em', em4]
  clear em4 em'
  refine (square_tk x y d ((4 * m + 1 : Nat) : Int) _ hs1).mono ?_
  rintro e w2 ⟨⟨v1, rfl, hv1⟩, hb2⟩
  have k0 := (hb2.cell (p := ⟨w.heap.size, 0, none⟩) (by simp; omega)).trans c0
  have k1 := (hb2.cell (p := ⟨w.heap.size, 1, none⟩) (by simp; omega)).trans c1
  have k2 := (hb2.cell (p := ⟨w.heap.size + 1, 0, none⟩) (by simp; omega)).trans c2
  have k3 := (hb2.cell (p := ⟨w.heap.size + 1, 1, none⟩) (by simp; omega)).trans c3
  have hz2 := hb2.size
  have B2 : Below w.heap.size w w2 := B1.trans (hb2.mono (by omega))
  have ht2 := ht.below B2
  clear hb2 c0 c1 c2 c3 hs1 ht1
  obtain ⟨E1, hE1⟩ : ∃ E1, sqE (x, y) d ((4 * m + 1 : Nat) : Int) = E1 := ⟨_, rfl⟩
  rw [hE1]
  go_wp2_with fail
  have en' : (1 : Int) + ((n : Int) - 1) = (n : Int) := by omega
  rw [en']
  clear en'
  refine (sector_tk x y d (n : Int) _ ht2).mono ?_
  rintro e w3 ⟨⟨v2, rfl, hv2⟩, hb3⟩
  have c0 := (hb3.cell (p := ⟨w.heap.size, 0, none⟩) (by simp; omega)).trans k0
  have c1 := (hb3.cell (p := ⟨w.heap.size, 1, none⟩) (by simp; omega)).trans k1
  have c2 := (hb3.cell (p := ⟨w.heap.size + 1, 0, none⟩) (by simp; omega)).trans k2
  have c3 := (hb3.cell (p := ⟨w.heap.size + 1, 1, none⟩) (by simp; omega)).trans k3
  have hz3 := hb3.size
  have B3 : Below w.heap.size w w3 := B2.trans (hb3.mono (by omega))
  have hv1' := hv1.below hb3
  obtain ⟨E2, hE2⟩ : ∃ E2, secE (x, y) d n = E2 := ⟨_, rfl⟩
  rw [hE2]
  clear hb3 k0 k1 k2 k3 ht2 hv1
  have hchk2 := check_tk v2 _ w3 hv2
  cases hG2 : secG (x, y) d n with
  | false =>
    have hE2' : E2 = 2 := by rw [← hE2]; simp only [secE, hG2]; rfl
    subst hE2'
    have hv1f := hv1'
    clear hchk2 hv2 hv1'
    cases hG1 : sqG (x, y) d ((4 * m + 1 : Nat) : Int) with
    | false =>
      have hE1' : E1 = 2 := by rw [← hE1]; simp only [sqE, hG1]; rfl
      subst hE1'
      have hnil : Spots w3 v1 [] := by simpa only [sqL, hG1, Bool.false_eq_true, if_false] using hv1f
      obtain ⟨A, cc, rfl, -⟩ := hnil
      clear  hv1f
      go_wp2_with fail
      go_ret
      exact ⟨rfl, B3⟩
    | true =>
      have hE1' : E1 = 0 := by rw [← hE1]; simp only [sqE, hG1]; rfl
      subst hE1'
      obtain ⟨bx, by', bd, hck, hnear⟩ := rings_plain hx hy ⟨hm1, hm2⟩ hG1
      have hlist : sqL (x, y) d ((4 * m + 1 : Nat) : Int) = sqW (x, y) d (4 * m + 1) := by simp only [sqL, hG1, Int.toNat_natCast]; rfl
      rw [hlist] at  hv1f
      obtain ⟨K, hK⟩ : ∃ K, (m : Int) * d = K := ⟨_, rfl⟩
      have hKb : 1 ≤ K ∧ K ≤ 31457280 := by
        have t1 := mul_in (a := (m : Int)) (b := d) (A := 30) (B := 1048576) (by omega) (by omega)
        have t2 := Int.mul_pos (a := (m : Int)) (b := d) (by omega) (by omega)
        omega
      have hw1 : wrap64 ((m : Int) * d) = K := by rw [hK]; exact w64 _ (by omega) (by omega)
      have hw2 : IntKind.i64.wrap ((m : Int) * d) = K := by rw [IntWalk.i64_left]; exact hw1
      have HN := Lib.hid hnear
      clear hnear hlist hs ht
      obtain ⟨R1, hR1⟩ : ∃ R, Int.tmod (a : Int) (2 * K + 1) = R := ⟨_, rfl⟩
      obtain ⟨R2, hR2⟩ : ∃ R, Int.tmod (b : Int) (2 * K + 1) = R := ⟨_, rfl⟩
      have hR1b : 0 ≤ R1 ∧ R1 ≤ 2 * K := by
        rw [← hR1, Int.tmod_eq_emod_of_nonneg (by omega)]
        have t1 := Int.emod_nonneg (a : Int) (b := 2 * K + 1) (by omega)
        have t2 := Int.emod_lt_of_pos (a : Int) (b := 2 * K + 1) (by omega)
        omega
      have hR2b : 0 ≤ R2 ∧ R2 ≤ 2 * K := by
        rw [← hR2, Int.tmod_eq_emod_of_nonneg (by omega)]
        have t1 := Int.emod_nonneg (b : Int) (b := 2 * K + 1) (by omega)
        have t2 := Int.emod_lt_of_pos (b : Int) (b := 2 * K + 1) (by omega)
        omega
      have z1 : (2 * K + 1 == 0) = false := by simp; omega
      have z1' : ¬ (2 * K + 1 = 0) := by omega
      have z2 : IntKind.i64.wrap (2 * K) = 2 * K := by rw [IntWalk.i64_left]; exact w64 _ (by omega) (by omega)
      have z3 : IntKind.i64.wrap (2 * K + 1) = 2 * K + 1 := by rw [IntWalk.i64_left]; exact w64 _ (by omega) (by omega)
      have z4 : IntKind.i64.wrap R1 = R1 := by rw [IntWalk.i64_left]; exact w64 _ (by omega) (by omega)
      have z5 : IntKind.i64.wrap R2 = R2 := by rw [IntWalk.i64_left]; exact w64 _ (by omega) (by omega)
      have z6 : IntKind.i64.wrap (x - K) = x - K := by rw [IntWalk.i64_left]; exact w64 _ (by omega) (by omega)
      have z7 : IntKind.i64.wrap (y - K) = y - K := by rw [IntWalk.i64_left]; exact w64 _ (by omega) (by omega)
      have z8 : IntKind.i64.wrap (x - K + R1) = x - K + R1 := by rw [IntWalk.i64_left]; exact w64 _ (by omega) (by omega)
      have za : IntKind.i64.wrap (a : Int) = a := by rw [IntWalk.i64_left]; exact w64 _ (by omega) (by omega)
      have zb : IntKind.i64.wrap (b : Int) = b := by rw [IntWalk.i64_left]; exact w64 _ (by omega) (by omega)
      have z9 : IntKind.i64.wrap (y - K + R2) = y - K + R2 := by rw [IntWalk.i64_left]; exact w64 _ (by omega) (by omega)
      go_wp2_with fail
      go_region_held3 (fun W' => W'.cell? ⟨w.heap.size, 0, none⟩ = some (.int .i64 x) ∧ W'.cell? ⟨w.heap.size, 1, none⟩ = some (.int .i64 y) ∧ W'.cell? ⟨w.heap.size + 1, 0, none⟩ = some (.int .u32 a) ∧ W'.cell? ⟨w.heap.size + 1, 1, none⟩ = some (.int .u32 b))
        (first | exact ⟨c0, c1, c2, c3⟩ | exact ⟨cell_alloc_l _ c0, cell_alloc_l _ c1, cell_alloc_l _ c2, cell_alloc_l _ c3⟩ | go_keep) (fail)
      clear z1 z1' z2 z3 z4 z5 z6 z7 z8 z9 za zb hw1 hw2
      obtain ⟨px, hpx⟩ : ∃ px, x - K + R1 = px := ⟨_, rfl⟩
      obtain ⟨py, hpy⟩ : ∃ py, y - K + R2 = py := ⟨_, rfl⟩
      rw [hpx, hpy]
      have hN := HN.out px py (by rw [hK]; omega) (by rw [hK]; omega)
      clear HN
      have B5 := (B3.alloc (B3.size) (.cells #[.int .i64 px, .int .i64 py] 23))
      have hv5 : Spots (w3.alloc (.cells #[.int .i64 px, .int .i64 py] 23)).drew v1 (sqW (x, y) d (4 * m + 1)) := hv1f.alloc _
      go_wp2_with fail
      refine (near_all v1 _ px py d _ hv5).mono ?_
      rintro e w5 ⟨rfl, hb5⟩
      have B6 : Below w.heap.size w w5 := (show Below w.heap.size w (w3.alloc (.cells #[.int .i64 px, .int .i64 py] 23)).drew from ⟨B5.os, B5.tape, B5.output, B5.size, B5.block⟩).trans (hb5.mono (by have := B5.size; simp at this ⊢; omega))
      have hv6 := hv5.below hb5
      have hchk := check_tk v1 _ w5 hv6
      rw [checkV_true hck] at hchk
      obtain ⟨A, cc, rfl, -, -, -⟩ := hv6
      rw [sqW_length] at hchk ⊢
      obtain ⟨E3, hE3⟩ : ∃ E3, nearE (sqW (x, y) d (4 * m + 1)) (px, py) d = E3 := ⟨_, rfl⟩
      obtain ⟨NB, hNB⟩ : ∃ NB, nearB (sqW (x, y) d (4 * m + 1)) (px, py) d = NB := ⟨_, rfl⟩
      rw [hE3, hNB] at hN
      rw [hE3, hNB]
      have e8 : IntKind.i64.wrap (4 * (m : Int) + 2) = 4 * (m : Int) + 2 := by rw [IntWalk.i64_left]; exact w64 _ (by omega) (by omega)
      clear hE3 hNB hv5 hb5 hck
      have e9 : ((4 * m + 1 + 1 : Nat) : Int) = 4 * (m : Int) + 2 := by omega
      by_cases hE0 : E3 = 0
      · have hNB : NB = true := by rcases hN with h | h; · omega
                                   · exact h
        subst hNB hE0
        clear hN
        go_wp2_with fail
        refine hchk.mono ?_
        rintro e w6 ⟨rfl, hb6⟩
        have B7 : Below w.heap.size w w6 := B6.trans (hb6.mono (by have := B6.size; omega))
        go_wp2_with fail
        go_ret
        exact ⟨rfl, B7⟩
      · have t0 : (E3 != 0) = true := by simpa using hE0
        clear hN
        go_wp2_with fail
        refine hchk.mono ?_
        rintro e w6 ⟨rfl, hb6⟩
        have B7 : Below w.heap.size w w6 := B6.trans (hb6.mono (by have := B6.size; omega))
        go_wp2_with fail
        all_goals (go_ret; exact ⟨rfl, B7⟩)
  | true =>
    have hE2' : E2 = 0 := by rw [← hE2]; simp only [secE, hG2]; rfl
    subst hE2'
    have hl2 : secL (x, y) d n = secW (x, y) d (n + 1) := by simp only [secL, hG2, Int.toNat_natCast]; rfl
    rw [hl2, checkV_true (sector_plain ⟨hn1, hn2⟩ hG2)] at hchk2
    clear hl2 hv2
    go_wp2_with fail
    refine hchk2.mono ?_
    rintro e w4 ⟨rfl, hb4⟩
    have k0 := (hb4.cell (p := ⟨w.heap.size, 0, none⟩) (by simp; omega)).trans c0
    have k1 := (hb4.cell (p := ⟨w.heap.size, 1, none⟩) (by simp; omega)).trans c1
    have k2 := (hb4.cell (p := ⟨w.heap.size + 1, 0, none⟩) (by simp; omega)).trans c2
    have k3 := (hb4.cell (p := ⟨w.heap.size + 1, 1, none⟩) (by simp; omega)).trans c3
    have hz4 := hb4.size
    have B4 : Below w.heap.size w w4 := B3.trans (hb4.mono (by omega))
    have hv1f := hv1'.below hb4
    clear hb4 c0 c1 c2 c3 hv1' hchk2
    cases hG1 : sqG (x, y) d ((4 * m + 1 : Nat) : Int) with
    | false =>
      have hE1' : E1 = 2 := by rw [← hE1]; simp only [sqE, hG1]; rfl
      subst hE1'
      have hnil : Spots w4 v1 [] := by simpa only [sqL, hG1, Bool.false_eq_true, if_false] using hv1f
      obtain ⟨A, cc, rfl, -⟩ := hnil
      clear  hv1f
      go_wp2_with fail
      go_ret
      exact ⟨rfl, B4⟩
    | true =>
      have hE1' : E1 = 0 := by rw [← hE1]; simp only [sqE, hG1]; rfl
      subst hE1'
      obtain ⟨bx, by', bd, hck, hnear⟩ := rings_plain hx hy ⟨hm1, hm2⟩ hG1
      have hlist : sqL (x, y) d ((4 * m + 1 : Nat) : Int) = sqW (x, y) d (4 * m + 1) := by simp only [sqL, hG1, Int.toNat_natCast]; rfl
      rw [hlist] at  hv1f
      obtain ⟨K, hK⟩ : ∃ K, (m : Int) * d = K := ⟨_, rfl⟩
      have hKb : 1 ≤ K ∧ K ≤ 31457280 := by
        have t1 := mul_in (a := (m : Int)) (b := d) (A := 30) (B := 1048576) (by omega) (by omega)
        have t2 := Int.mul_pos (a := (m : Int)) (b := d) (by omega) (by omega)
        omega
      have hw1 : wrap64 ((m : Int) * d) = K := by rw [hK]; exact w64 _ (by omega) (by omega)
      have hw2 : IntKind.i64.wrap ((m : Int) * d) = K := by rw [IntWalk.i64_left]; exact hw1
      have HN := Lib.hid hnear
      clear hnear hlist hs ht
      obtain ⟨R1, hR1⟩ : ∃ R, Int.tmod (a : Int) (2 * K + 1) = R := ⟨_, rfl⟩
      obtain ⟨R2, hR2⟩ : ∃ R, Int.tmod (b : Int) (2 * K + 1) = R := ⟨_, rfl⟩
      have hR1b : 0 ≤ R1 ∧ R1 ≤ 2 * K := by
        rw [← hR1, Int.tmod_eq_emod_of_nonneg (by omega)]
        have t1 := Int.emod_nonneg (a : Int) (b := 2 * K + 1) (by omega)
        have t2 := Int.emod_lt_of_pos (a : Int) (b := 2 * K + 1) (by omega)
        omega
      have hR2b : 0 ≤ R2 ∧ R2 ≤ 2 * K := by
        rw [← hR2, Int.tmod_eq_emod_of_nonneg (by omega)]
        have t1 := Int.emod_nonneg (b : Int) (b := 2 * K + 1) (by omega)
        have t2 := Int.emod_lt_of_pos (b : Int) (b := 2 * K + 1) (by omega)
        omega
      have z1 : (2 * K + 1 == 0) = false := by simp; omega
      have z1' : ¬ (2 * K + 1 = 0) := by omega
      have z2 : IntKind.i64.wrap (2 * K) = 2 * K := by rw [IntWalk.i64_left]; exact w64 _ (by omega) (by omega)
      have z3 : IntKind.i64.wrap (2 * K + 1) = 2 * K + 1 := by rw [IntWalk.i64_left]; exact w64 _ (by omega) (by omega)
      have z4 : IntKind.i64.wrap R1 = R1 := by rw [IntWalk.i64_left]; exact w64 _ (by omega) (by omega)
      have z5 : IntKind.i64.wrap R2 = R2 := by rw [IntWalk.i64_left]; exact w64 _ (by omega) (by omega)
      have z6 : IntKind.i64.wrap (x - K) = x - K := by rw [IntWalk.i64_left]; exact w64 _ (by omega) (by omega)
      have z7 : IntKind.i64.wrap (y - K) = y - K := by rw [IntWalk.i64_left]; exact w64 _ (by omega) (by omega)
      have z8 : IntKind.i64.wrap (x - K + R1) = x - K + R1 := by rw [IntWalk.i64_left]; exact w64 _ (by omega) (by omega)
      have za : IntKind.i64.wrap (a : Int) = a := by rw [IntWalk.i64_left]; exact w64 _ (by omega) (by omega)
      have zb : IntKind.i64.wrap (b : Int) = b := by rw [IntWalk.i64_left]; exact w64 _ (by omega) (by omega)
      have z9 : IntKind.i64.wrap (y - K + R2) = y - K + R2 := by rw [IntWalk.i64_left]; exact w64 _ (by omega) (by omega)
      go_wp2_with fail
      go_region_held3 (fun W' => W'.cell? ⟨w.heap.size, 0, none⟩ = some (.int .i64 x) ∧ W'.cell? ⟨w.heap.size, 1, none⟩ = some (.int .i64 y) ∧ W'.cell? ⟨w.heap.size + 1, 0, none⟩ = some (.int .u32 a) ∧ W'.cell? ⟨w.heap.size + 1, 1, none⟩ = some (.int .u32 b))
        (first | exact ⟨k0, k1, k2, k3⟩ | exact ⟨cell_alloc_l _ k0, cell_alloc_l _ k1, cell_alloc_l _ k2, cell_alloc_l _ k3⟩ | go_keep) (fail)
      clear z1 z1' z2 z3 z4 z5 z6 z7 z8 z9 za zb hw1 hw2
      obtain ⟨px, hpx⟩ : ∃ px, x - K + R1 = px := ⟨_, rfl⟩
      obtain ⟨py, hpy⟩ : ∃ py, y - K + R2 = py := ⟨_, rfl⟩
      rw [hpx, hpy]
      have hN := HN.out px py (by rw [hK]; omega) (by rw [hK]; omega)
      clear HN
      have B5 := (B4.alloc (B4.size) (.cells #[.int .i64 px, .int .i64 py] 23))
      have hv5 : Spots (w4.alloc (.cells #[.int .i64 px, .int .i64 py] 23)).drew v1 (sqW (x, y) d (4 * m + 1)) := hv1f.alloc _
      go_wp2_with fail
      refine (near_all v1 _ px py d _ hv5).mono ?_
      rintro e w5 ⟨rfl, hb5⟩
      have B6 : Below w.heap.size w w5 := (show Below w.heap.size w (w4.alloc (.cells #[.int .i64 px, .int .i64 py] 23)).drew from ⟨B5.os, B5.tape, B5.output, B5.size, B5.block⟩).trans (hb5.mono (by have := B5.size; simp at this ⊢; omega))
      have hv6 := hv5.below hb5
      have hchk := check_tk v1 _ w5 hv6
      rw [checkV_true hck] at hchk
      obtain ⟨A, cc, rfl, -, -, -⟩ := hv6
      rw [sqW_length] at hchk ⊢
      obtain ⟨E3, hE3⟩ : ∃ E3, nearE (sqW (x, y) d (4 * m + 1)) (px, py) d = E3 := ⟨_, rfl⟩
      obtain ⟨NB, hNB⟩ : ∃ NB, nearB (sqW (x, y) d (4 * m + 1)) (px, py) d = NB := ⟨_, rfl⟩
      rw [hE3, hNB] at hN
      rw [hE3, hNB]
      have e8 : IntKind.i64.wrap (4 * (m : Int) + 2) = 4 * (m : Int) + 2 := by rw [IntWalk.i64_left]; exact w64 _ (by omega) (by omega)
      clear hE3 hNB hv5 hb5 hck
      have e9 : ((4 * m + 1 + 1 : Nat) : Int) = 4 * (m : Int) + 2 := by omega
      by_cases hE0 : E3 = 0
      · have hNB : NB = true := by rcases hN with h | h; · omega
                                   · exact h
        subst hNB hE0
        clear hN
        go_wp2_with fail
        refine hchk.mono ?_
        rintro e w6 ⟨rfl, hb6⟩
        have B7 : Below w.heap.size w w6 := B6.trans (hb6.mono (by have := B6.size; omega))
        go_wp2_with fail
        go_ret
        exact ⟨rfl, B7⟩
      · have t0 : (E3 != 0) = true := by simpa using hE0
        clear hN
        go_wp2_with fail
        refine hchk.mono ?_
        rintro e w6 ⟨rfl, hb6⟩
        have B7 : Below w.heap.size w w6 := B6.trans (hb6.mono (by have := B6.size; omega))
        go_wp2_with fail
        all_goals (go_ret; exact ⟨rfl, B7⟩)
end Go.Proofs.YtnbdnnbeiohmgaaDoor
