/- GridLong: the walk. -/
import Derived.Test.YtnbdnnbeiohmgaaLgSides
import Derived.Test.YtnbdnnbeiohmgaaGrAlive
import Derived.Deep.RegionHeld3
namespace Go.Proofs.Ytnbdnnbeiohmgaa
open Go.RowKit Go.Shelf

/-- the law's grid and the picks of its two combs -/
def LFr (w : World) (B : Nat) (H p q r s : Int) : Prop :=
  w.cell? ⟨B, 0, none⟩ = some (.int .u8 p) ∧ w.cell? ⟨B, 1, none⟩ = some (.int .u8 q) ∧ w.cell? ⟨B + 1, 0, none⟩ = some (.int .u8 r) ∧ w.cell? ⟨B + 1, 1, none⟩ = some (.int .u8 s) ∧
  w.cell? ⟨B + 1 + 1, 0, none⟩ = some (.int .i64 256) ∧ w.cell? ⟨B + 1 + 1, 1, none⟩ = some (.int .i64 H) ∧ w.cell? ⟨B + 1 + 1, 2, none⟩ = some (.int .i64 1) ∧ w.cell? ⟨B + 1 + 1, 3, none⟩ = some (.slice none 0 0) ∧
  B < w.heap.size ∧ B + 1 < w.heap.size ∧ B + 1 + 1 < w.heap.size
theorem LFr.below {w w' : World} {B : Nat} {H p q r s : Int} (h : LFr w B H p q r s) (hb : Below w.heap.size w w') : LFr w' B H p q r s := by
  obtain ⟨a0, a1, b0, b1, g0, g1, g2, g3, n0, n1, n2⟩ := h
  have hs := hb.size
  exact ⟨(hb.cell (p := ⟨B, 0, none⟩) n0).trans a0, (hb.cell (p := ⟨B, 1, none⟩) n0).trans a1, (hb.cell (p := ⟨B + 1, 0, none⟩) n1).trans b0, (hb.cell (p := ⟨B + 1, 1, none⟩) n1).trans b1,
    (hb.cell (p := ⟨B + 1 + 1, 0, none⟩) n2).trans g0, (hb.cell (p := ⟨B + 1 + 1, 1, none⟩) n2).trans g1, (hb.cell (p := ⟨B + 1 + 1, 2, none⟩) n2).trans g2, (hb.cell (p := ⟨B + 1 + 1, 3, none⟩) n2).trans g3, by omega, by omega, by omega⟩
theorem LFr.le {w : World} {B : Nat} {H p q r s : Int} (h : LFr w B H p q r s) : B ≤ w.heap.size := by
  obtain ⟨-, -, -, -, -, -, -, -, h, -⟩ := h
  omega

set_option maxRecDepth 100000 in
set_option maxHeartbeats 16000000 in
theorem long_gr (h p q r s : Int) (w : World) (hh : 0 ≤ h ∧ h ≤ 255) (hp : 0 ≤ p ∧ p ≤ 255) (hq : 0 ≤ q ∧ q ≤ 255) (hr : 0 ≤ r ∧ r ≤ 255) (hs : 0 ≤ s ∧ s ≤ 255) :
    Calls Try.prog 4 #[.int .u8 h, .agg #[.int .u8 p, .int .u8 q], .agg #[.int .u8 r, .int .u8 s]] w fun e w' => e = .returned (.bool true) ∧ Below w.heap.size w w' := by
  obtain ⟨H, hH⟩ : ∃ H, 1 + h = H := ⟨_, rfl⟩
  have e1 : wrap64 h = h := wrapId _ (by omega) (by omega)
  have e2 : wrap64 (1 + h) = H := by rw [hH]; exact wrapId _ (by omega) (by omega)
  have hHb : 1 ≤ H ∧ H ≤ 256 := by omega
  go_enter Try.func4, Try.ntmps4
  go_upto_region 2 with fail
  have b3 : Below w.heap.size w (((w.alloc (.cells #[.int .u8 p, .int .u8 q] 49)).alloc (.cells #[.int .u8 r, .int .u8 s] 49)).alloc (.cells #[.int .i64 256, .int .i64 H, .int .i64 1, .slice none 0 0] 24)) := (((Below.refl w.heap.size w).alloc (Nat.le_refl _) _).alloc (by simp) _).alloc (by simp; omega) _
  have M0 : LFr (((w.alloc (.cells #[.int .u8 p, .int .u8 q] 49)).alloc (.cells #[.int .u8 r, .int .u8 s] 49)).alloc (.cells #[.int .i64 256, .int .i64 H, .int .i64 1, .slice none 0 0] 24)) w.heap.size H p q r s := by
    refine ⟨?_, ?_, ?_, ?_, ?_, ?_, ?_, ?_, ?_, ?_, ?_⟩ <;> simp [go_sem] <;> omega
  have M := Lib.hid M0
  obtain ⟨w3, hw3⟩ : ∃ w3, (((w.alloc (.cells #[.int .u8 p, .int .u8 q] 49)).alloc (.cells #[.int .u8 r, .int .u8 s] 49)).alloc (.cells #[.int .i64 256, .int .i64 H, .int .i64 1, .slice none 0 0] 24)) = w3 := ⟨_, rfl⟩
  rw [hw3] at b3 M ⊢
  clear hw3 M0
  obtain ⟨B, hB⟩ : ∃ B, w.heap.size = B := ⟨_, rfl⟩
  rw [hB] at b3 M ⊢
  obtain ⟨a0, a1, b0, b1, g0, g1, g2, g3, n0, n1, n2⟩ := M.out
  have HC1 := Lib.hid (fun w => comb_gr H p q (.slice none 0 0) w hHb hp hq)
  have HC2 := Lib.hid (fun w => comb_gr H r s (.slice none 0 0) w hHb hr hs)
  clear e1 e2
  go_region_held3 (fun W' => W'.cell? ⟨B, 0, none⟩ = some (.int .u8 p) ∧ W'.cell? ⟨B, 1, none⟩ = some (.int .u8 q) ∧ W'.cell? ⟨B + 1, 0, none⟩ = some (.int .u8 r) ∧ W'.cell? ⟨B + 1, 1, none⟩ = some (.int .u8 s) ∧ W'.cell? ⟨B + 1 + 1, 0, none⟩ = some (.int .i64 256) ∧ W'.cell? ⟨B + 1 + 1, 1, none⟩ = some (.int .i64 H) ∧ W'.cell? ⟨B + 1 + 1, 2, none⟩ = some (.int .i64 1) ∧ W'.cell? ⟨B + 1 + 1, 3, none⟩ = some (.slice none 0 0))
    (first | exact ⟨a0, a1, b0, b1, g0, g1, g2, g3⟩ | exact ⟨xa0, xa1, xb0, xb1, xg0, xg1, xg2, xg3⟩ | exact ⟨ya0, ya1, yb0, yb1, yg0, yg1, yg2, yg3⟩)
    (first | (go_at_call 19; (with_reducible refine (HC1.out _).mono ?_); rintro e wa ⟨⟨va, la, rfl, hva, hpa, h0a, h8a⟩, hba⟩; have hba' : Below w3.heap.size w3 wa := ⟨hba.os, hba.tape, hba.output, hba.size, hba.block⟩; have xa0 := (hba'.cell (p := ⟨B, 0, none⟩) n0).trans a0; have xa1 := (hba'.cell (p := ⟨B, 1, none⟩) n0).trans a1; have xb0 := (hba'.cell (p := ⟨B + 1, 0, none⟩) n1).trans b0; have xb1 := (hba'.cell (p := ⟨B + 1, 1, none⟩) n1).trans b1; have xg0 := (hba'.cell (p := ⟨B + 1 + 1, 0, none⟩) n2).trans g0; have xg1 := (hba'.cell (p := ⟨B + 1 + 1, 1, none⟩) n2).trans g1; have xg2 := (hba'.cell (p := ⟨B + 1 + 1, 2, none⟩) n2).trans g2; have xg3 := (hba'.cell (p := ⟨B + 1 + 1, 3, none⟩) n2).trans g3; skip) | (go_at_call 19; (with_reducible refine (HC2.out _).mono ?_); rintro e wb ⟨⟨vb, lb, rfl, hvb, hpb, h0b, h8b⟩, hbb⟩; have hbb' : Below wa.heap.size wa wb := ⟨hbb.os, hbb.tape, hbb.output, hbb.size, hbb.block⟩; have ya0 := (hbb'.cell (p := ⟨B, 0, none⟩) (Nat.lt_of_lt_of_le n0 hba'.size)).trans xa0; have ya1 := (hbb'.cell (p := ⟨B, 1, none⟩) (Nat.lt_of_lt_of_le n0 hba'.size)).trans xa1; have yb0 := (hbb'.cell (p := ⟨B + 1, 0, none⟩) (Nat.lt_of_lt_of_le n1 hba'.size)).trans xb0; have yb1 := (hbb'.cell (p := ⟨B + 1, 1, none⟩) (Nat.lt_of_lt_of_le n1 hba'.size)).trans xb1; have yg0 := (hbb'.cell (p := ⟨B + 1 + 1, 0, none⟩) (Nat.lt_of_lt_of_le n2 hba'.size)).trans xg0; have yg1 := (hbb'.cell (p := ⟨B + 1 + 1, 1, none⟩) (Nat.lt_of_lt_of_le n2 hba'.size)).trans xg1; have yg2 := (hbb'.cell (p := ⟨B + 1 + 1, 2, none⟩) (Nat.lt_of_lt_of_le n2 hba'.size)).trans xg2; have yg3 := (hbb'.cell (p := ⟨B + 1 + 1, 3, none⟩) (Nat.lt_of_lt_of_le n2 hba'.size)).trans xg3; skip))
  rename_i hHeld
  clear hHeld
  have hsa := hba'.size
  have hsb := hbb'.size
  have M := Lib.hid ((M.out.below hba').below hbb')
  have b5 := (b3.trans (hba'.mono (by omega))).trans (hbb'.mono (by omega))
  have K := Lib.hid (show Both2 wb 256 H 1 (.slice none 0 0) va vb [] la lb from ⟨by omega, hHb, by omega, Lst.nil _, ⟨rfl, fun r hr => by simp at hr⟩, by simp, hva.below hbb', hvb, hpa, hpb, h8a, h8b, h0a, h0b⟩)
  obtain ⟨Aa, ca, rfl, -⟩ := hva
  obtain ⟨Ab, cb, rfl, -⟩ := hvb
  obtain ⟨E0, hE0⟩ : ∃ E, outE 0 la lb 256 H = E := ⟨_, rfl⟩
  obtain ⟨E1, hE1⟩ : ∃ E, outE 1 la lb 256 H = E := ⟨_, rfl⟩
  obtain ⟨E2, hE2⟩ : ∃ E, outE 2 la lb 256 H = E := ⟨_, rfl⟩
  obtain ⟨L0, hL0⟩ : ∃ E, outL 0 la lb 256 H = E := ⟨_, rfl⟩
  obtain ⟨L1, hL1⟩ : ∃ E, outL 1 la lb 256 H = E := ⟨_, rfl⟩
  obtain ⟨L2, hL2⟩ : ∃ E, outL 2 la lb 256 H = E := ⟨_, rfl⟩
  have HE := Lib.hid (And.intro hE0 (And.intro hE1 (And.intro hE2 (And.intro hL0 (And.intro hL1 hL2)))))
  obtain ⟨na, hna⟩ : ∃ n, la.length = n := ⟨_, rfl⟩
  obtain ⟨nb, hnb⟩ : ∃ n, lb.length = n := ⟨_, rfl⟩
  rw [hna] at K ⊢
  rw [hnb] at K ⊢
  clear hba hba' hbb hbb' hsa hsb b3 hE0 hE1 hE2 hL0 hL1 hL2 hna hnb hpa hpb h0a h0b h8a h8b a0 a1 b0 b1 g0 g1 g2 g3 xa0 xa1 xb0 xb1 xg0 xg1 xg2 xg3 ya0 ya1 yb0 yb1 yg0 yg1 yg2 yg3 n0 n1 n2
  obtain ⟨a0, a1, b0, b1, g0, g1, g2, g3, n0, n1, n2⟩ := M.out
  go_wp2_with fail
  refine (p_either K.out).mono ?_
  rintro e w6 ⟨⟨x0, rfl, hx0⟩, hb⟩
  rw [HE.out.1]
  rw [HE.out.2.2.2.1] at hx0
  have b6 := b5.trans (hb.mono M.out.le)
  have M := Lib.hid (M.out.below hb)
  have K := Lib.hid (K.out.below hb)
  clear hb b5 a0 a1 b0 b1 g0 g1 g2 g3 n0 n1 n2
  obtain ⟨a0, a1, b0, b1, g0, g1, g2, g3, n0, n1, n2⟩ := M.out
  go_wp2_with fail
  refine (r_either K.out).mono ?_
  rintro e w7 ⟨⟨y0, rfl, hy0⟩, hb⟩
  rw [HE.out.1]
  rw [HE.out.2.2.2.1] at hy0
  have b7 := b6.trans (hb.mono M.out.le)
  have M := Lib.hid (M.out.below hb)
  have K := Lib.hid (K.out.below hb)
  have hx0 := hx0.below hb
  clear hb b6 a0 a1 b0 b1 g0 g1 g2 g3 n0 n1 n2
  obtain ⟨a0, a1, b0, b1, g0, g1, g2, g3, n0, n1, n2⟩ := M.out
  go_wp2_with fail
  refine (p_both K.out).mono ?_
  rintro e w8 ⟨⟨x1, rfl, hx1⟩, hb⟩
  rw [HE.out.2.1] 
  rw [HE.out.2.2.2.2.1] at hx1
  have b8 := b7.trans (hb.mono M.out.le)
  have M := Lib.hid (M.out.below hb)
  have K := Lib.hid (K.out.below hb)
  have hx0 := hx0.below hb
  have hy0 := hy0.below hb
  clear hb b7 a0 a1 b0 b1 g0 g1 g2 g3 n0 n1 n2
  obtain ⟨a0, a1, b0, b1, g0, g1, g2, g3, n0, n1, n2⟩ := M.out
  go_wp2_with fail
  refine (r_both K.out).mono ?_
  rintro e w9 ⟨⟨y1, rfl, hy1⟩, hb⟩
  rw [HE.out.2.1] 
  rw [HE.out.2.2.2.2.1] at hy1
  have b9 := b8.trans (hb.mono M.out.le)
  have M := Lib.hid (M.out.below hb)
  have K := Lib.hid (K.out.below hb)
  have hx0 := hx0.below hb
  have hy0 := hy0.below hb
  have hx1 := hx1.below hb
  clear hb b8 a0 a1 b0 b1 g0 g1 g2 g3 n0 n1 n2
  obtain ⟨a0, a1, b0, b1, g0, g1, g2, g3, n0, n1, n2⟩ := M.out
  go_wp2_with fail
  refine (p_without K.out).mono ?_
  rintro e w10 ⟨⟨x2, rfl, hx2⟩, hb⟩
  rw [HE.out.2.2.1] 
  rw [HE.out.2.2.2.2.2] at hx2
  have b10 := b9.trans (hb.mono M.out.le)
  have M := Lib.hid (M.out.below hb)
  have K := Lib.hid (K.out.below hb)
  have hx0 := hx0.below hb
  have hy0 := hy0.below hb
  have hx1 := hx1.below hb
  have hy1 := hy1.below hb
  clear hb b9 a0 a1 b0 b1 g0 g1 g2 g3 n0 n1 n2
  obtain ⟨a0, a1, b0, b1, g0, g1, g2, g3, n0, n1, n2⟩ := M.out
  go_wp2_with fail
  refine (r_without K.out).mono ?_
  rintro e w11 ⟨⟨y2, rfl, hy2⟩, hb⟩
  rw [HE.out.2.2.1] 
  rw [HE.out.2.2.2.2.2] at hy2
  have b11 := b10.trans (hb.mono M.out.le)
  have M := Lib.hid (M.out.below hb)
  have K := Lib.hid (K.out.below hb)
  have hx0 := hx0.below hb
  have hy0 := hy0.below hb
  have hx1 := hx1.below hb
  have hy1 := hy1.below hb
  have hx2 := hx2.below hb
  clear hb b10 a0 a1 b0 b1 g0 g1 g2 g3 n0 n1 n2
  obtain ⟨a0, a1, b0, b1, g0, g1, g2, g3, n0, n1, n2⟩ := M.out
  obtain ⟨A0, c0, rfl, -⟩ := (show Runs w11 x0 L0 from hx0)
  obtain ⟨A1, c1, rfl, -⟩ := (show Runs w11 y0 L0 from hy0)
  obtain ⟨A2, c2, rfl, -⟩ := (show Runs w11 x1 L1 from hx1)
  obtain ⟨A3, c3, rfl, -⟩ := (show Runs w11 y1 L1 from hy1)
  obtain ⟨A4, c4, rfl, -⟩ := (show Runs w11 x2 L2 from hx2)
  obtain ⟨A5, c5, rfl, -⟩ := (show Runs w11 y2 L2 from hy2)
  have HX := Lib.hid (And.intro hx0 (And.intro hy0 (And.intro hx1 (And.intro hy1 (And.intro hx2 hy2)))))
  obtain ⟨m0, hm0⟩ : ∃ n, L0.length = n := ⟨_, rfl⟩
  obtain ⟨m1, hm1⟩ : ∃ n, L1.length = n := ⟨_, rfl⟩
  obtain ⟨m2, hm2⟩ : ∃ n, L2.length = n := ⟨_, rfl⟩
  rw [hm0, hm1, hm2] at HX ⊢
  clear hm0 hm1 hm2 hx0 hy0 hx1 hy1 hx2 hy2 HE K HC1 HC2 a0 a1 b0 b1 g0 g1 g2 g3 n0 n1 n2
  go_wp2_with fail
  refine (lsame_gr _ _ E0 L0 _ HX.out.1 HX.out.2.1).mono ?_
  rintro e w12 ⟨rfl, hb12⟩
  go_wp2_with fail
  refine (lsame_gr _ _ E1 L1 _ (HX.out.2.2.1.below hb12) (HX.out.2.2.2.1.below hb12)).mono ?_
  rintro e w13 ⟨rfl, hb13⟩
  have hb13' := hb12.trans (hb13.mono hb12.size)
  go_wp2_with fail
  refine (lsame_gr _ _ E2 L2 _ (HX.out.2.2.2.2.1.below hb13') (HX.out.2.2.2.2.2.below hb13')).mono ?_
  rintro e w14 ⟨rfl, hb14⟩
  have hb14' := hb13'.trans (hb14.mono hb13'.size)
  go_wp2_with fail
  refine (alive_gr _).mono ?_
  rintro e w15 ⟨rfl, hb15⟩
  have hb15' := hb14'.trans (hb15.mono hb14'.size)
  have bE := b11.trans (hb15'.mono M.out.le)
  go_wp2_with fail
  go_ret
  exact ⟨rfl, by first | exact bE | (rw [hB]; exact bE)⟩
end Go.Proofs.Ytnbdnnbeiohmgaa
