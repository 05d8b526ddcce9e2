/- GridMoves: the walk. -/
import Derived.Test.YtnbdnnbeiohmgaaGrMovesP
import Derived.Test.YtnbdnnbeiohmgaaGrCellsC
import Derived.Test.YtnbdnnbeiohmgaaGrPick
import Derived.Test.YtnbdnnbeiohmgaaGrBack
namespace Go.Proofs.Ytnbdnnbeiohmgaa
open Go.RowKit Go.Shelf

/-- the boxes of the law's arguments, in blocks B to B + 3 -/
def Fr (w : World) (B : Nat) (W H S : Int) (vL : Value) (a b c d x1 x2 y1 y2 : Int) : Prop :=
  w.cell? ⟨B, 0, none⟩ = some (.int .i64 W) ∧ w.cell? ⟨B, 1, none⟩ = some (.int .i64 H) ∧ w.cell? ⟨B, 2, none⟩ = some (.int .i64 S) ∧ w.cell? ⟨B, 3, none⟩ = some vL ∧
  w.cell? ⟨B + 1, 0, none⟩ = some (.int .i64 a) ∧ w.cell? ⟨B + 1, 1, none⟩ = some (.int .i64 b) ∧ w.cell? ⟨B + 1, 2, none⟩ = some (.int .i64 c) ∧ w.cell? ⟨B + 1, 3, none⟩ = some (.int .i64 d) ∧
  w.cell? ⟨B + 1 + 1, 0, none⟩ = some (.int .u32 x1) ∧ w.cell? ⟨B + 1 + 1, 1, none⟩ = some (.int .u32 x2) ∧
  w.cell? ⟨B + 1 + 1 + 1, 0, none⟩ = some (.int .u32 y1) ∧ w.cell? ⟨B + 1 + 1 + 1, 1, none⟩ = some (.int .u32 y2) ∧
  B < w.heap.size ∧ B + 1 < w.heap.size ∧ B + 1 + 1 < w.heap.size ∧ B + 1 + 1 + 1 < w.heap.size
theorem Fr.below {w w' : World} {B : Nat} {W H S : Int} {vL : Value} {a b c d x1 x2 y1 y2 : Int} (h : Fr w B W H S vL a b c d x1 x2 y1 y2) (hb : Below w.heap.size w w') : Fr w' B W H S vL a b c d x1 x2 y1 y2 := by
  obtain ⟨g0, g1, g2, g3, p0, p1, p2, p3, u0, u1, v0, v1, n0, n1, n2, n3⟩ := h
  have hs := hb.size
  exact ⟨(hb.cell (p := ⟨B, 0, none⟩) n0).trans g0, (hb.cell (p := ⟨B, 1, none⟩) n0).trans g1, (hb.cell (p := ⟨B, 2, none⟩) n0).trans g2, (hb.cell (p := ⟨B, 3, none⟩) n0).trans g3,
    (hb.cell (p := ⟨B + 1, 0, none⟩) n1).trans p0, (hb.cell (p := ⟨B + 1, 1, none⟩) n1).trans p1, (hb.cell (p := ⟨B + 1, 2, none⟩) n1).trans p2, (hb.cell (p := ⟨B + 1, 3, none⟩) n1).trans p3,
    (hb.cell (p := ⟨B + 1 + 1, 0, none⟩) n2).trans u0, (hb.cell (p := ⟨B + 1 + 1, 1, none⟩) n2).trans u1, (hb.cell (p := ⟨B + 1 + 1 + 1, 0, none⟩) n3).trans v0, (hb.cell (p := ⟨B + 1 + 1 + 1, 1, none⟩) n3).trans v1,
    by omega, by omega, by omega, by omega⟩
theorem Fr.le {w : World} {B : Nat} {W H S : Int} {vL : Value} {a b c d x1 x2 y1 y2 : Int} (h : Fr w B W H S vL a b c d x1 x2 y1 y2) : B ≤ w.heap.size := by
  obtain ⟨-, -, -, -, -, -, -, -, -, -, -, -, h, -⟩ := h
  omega

/-- Back of one cell of a grid that is not great -/
theorem back_one (W H S a b c d dx dy : Int) (vL v : Value) (ld : List R3) (w : World) (hLd : Runs w vL ld) (hl : Runs w v [(dy, dx, dx + 1)]) (hk : checkG W H S ld = true) (hx : 0 ≤ dx ∧ dx < W) (hy : 0 ≤ dy ∧ dy < H) (hp : pushB a b c d = true) (hm : W * H ≤ 4096) :
    Calls Try.prog 16 #[.agg #[.int .i64 W, .int .i64 H, .int .i64 S, vL], v, .agg #[.int .i64 a, .int .i64 b, .int .i64 c, .int .i64 d]] w fun e w' =>
      (∃ v', e = .returned (.tuple #[v', .int .i64 0]) ∧ ∃ R, RegOf (growF W H (leadOf S (-c) (-d) (-a) (-b)) [(dy, dx, dx + 1)]) R ∧ Runs w' v' R) ∧ Below w.heap.size w w' := by
  obtain ⟨hW, hH, -, -⟩ := checkG_iff hk
  refine (back_gr W H S a b c d vL v ld [(dy, dx, dx + 1)] w hLd hl (one_ok hk hx hy) hp).mono ?_
  rintro e w' ⟨⟨R, hR, v', rfl, hv⟩, hb⟩
  have hl := reg_len hW hH hR hm
  rw [if_pos hl] at hv
  rw [if_pos hl]
  exact ⟨⟨v', rfl, R, hR, hv⟩, hb⟩

set_option maxRecDepth 100000 in
set_option maxHeartbeats 32000000 in
theorem moves_gr (W H S a b c d t x1 x2 y1 y2 : Int) (vL v : Value) (ld l : List R3) (w : World) (hLd : Runs w vL ld) (hl : Runs w v l) (ht : 0 ≤ t ∧ t ≤ 4294967295)
    (hx1 : 0 ≤ x1 ∧ x1 ≤ 4294967295) (hx2 : 0 ≤ x2 ∧ x2 ≤ 4294967295) (hy1 : 0 ≤ y1 ∧ y1 ≤ 4294967295) (hy2 : 0 ≤ y2 ∧ y2 ≤ 4294967295) :
    Calls Try.prog 3 #[.agg #[.int .i64 W, .int .i64 H, .int .i64 S, vL], v, .agg #[.int .i64 a, .int .i64 b, .int .i64 c, .int .i64 d], .int .u32 t, .agg #[.int .u32 x1, .int .u32 x2], .agg #[.int .u32 y1, .int .u32 y2]] w fun e w' => e = .returned (.bool true) ∧ Below w.heap.size w w' := by
  obtain ⟨A, cap, rfl, -⟩ := (show Runs w v l from hl)
  obtain ⟨n, hn⟩ : ∃ n, l.length = n := ⟨_, rfl⟩
  rw [hn] at hl ⊢
  have HL := Lib.hid hl
  have HLd := Lib.hid hLd
  have HT := Lib.hid (And.intro hx1 (And.intro hx2 (And.intro hy1 hy2)))
  clear hl hLd hn hx1 hx2 hy1 hy2
  have b0 : Below w.heap.size w ((((w.alloc (.cells #[.int .i64 W, .int .i64 H, .int .i64 S, vL] 24)).alloc (.cells #[.int .i64 a, .int .i64 b, .int .i64 c, .int .i64 d] 28)).alloc (.cells #[.int .u32 x1, .int .u32 x2] 30)).alloc (.cells #[.int .u32 y1, .int .u32 y2] 30)) := ((((Below.refl w.heap.size w).alloc (Nat.le_refl _) _).alloc (by simp) _).alloc (by simp; omega) _).alloc (by simp; omega) _
  have M0 : Fr ((((w.alloc (.cells #[.int .i64 W, .int .i64 H, .int .i64 S, vL] 24)).alloc (.cells #[.int .i64 a, .int .i64 b, .int .i64 c, .int .i64 d] 28)).alloc (.cells #[.int .u32 x1, .int .u32 x2] 30)).alloc (.cells #[.int .u32 y1, .int .u32 y2] 30)) w.heap.size W H S vL a b c d x1 x2 y1 y2 := by
    refine ⟨?_, ?_, ?_, ?_, ?_, ?_, ?_, ?_, ?_, ?_, ?_, ?_, ?_, ?_, ?_, ?_⟩ <;> simp [go_sem] <;> omega
  have M := Lib.hid M0
  clear M0
  go_enter Try.func3, Try.ntmps3
  go_wp2_with fail
  obtain ⟨w0, hw0⟩ : ∃ w0, ((((w.alloc (.cells #[.int .i64 W, .int .i64 H, .int .i64 S, vL] 24)).alloc (.cells #[.int .i64 a, .int .i64 b, .int .i64 c, .int .i64 d] 28)).alloc (.cells #[.int .u32 x1, .int .u32 x2] 30)).alloc (.cells #[.int .u32 y1, .int .u32 y2] 30)) = w0 := ⟨_, rfl⟩
  rw [hw0] at b0 M ⊢
  clear hw0
  obtain ⟨B, hB⟩ : ∃ B, w.heap.size = B := ⟨_, rfl⟩
  rw [hB] at b0 M ⊢
  refine (alive_gr _).mono ?_
  rintro e w1 ⟨rfl, hb1⟩
  have b1 := b0.trans (hb1.mono M.out.le)
  have M := Lib.hid (M.out.below hb1)
  clear hb1 b0
  obtain ⟨g0, g1, g2, g3, p0, p1, p2, p3, u0, u1, v0, v1, n0, n1, n2, n3⟩ := M.out
  go_wp2_with fail
  have ba : Below w1.heap.size w1 (w1.alloc (.cells #[.slice A n cap] 22)) := (Below.refl _ _).alloc (Nat.le_refl _) _
  have b1a := b1.trans (ba.mono M.out.le)
  refine (great_gr W H S 4096 vL (.slice (some ⟨w1.heap.size, 0, none⟩) 1 1) ld [.slice A n cap] _ (HLd.out.below (by rw [hB]; exact b1a)) (Lst_lit (enc := enc1) (k := 1) (fun _ => rfl) w1 w1.heap.size 1 rfl #[.slice A n cap] [.slice A n cap] 22 rfl rfl (by unfold maxLen; omega)) (fun u hu => by simp at hu; exact ⟨A, n, cap, hu⟩)).mono ?_
  rintro e w2 ⟨⟨o, rfl, ho⟩, hb2⟩
  have M := Lib.hid ((M.out.below ba).below hb2)
  have b2 := b1a.trans (hb2.mono (by simp; omega))
  clear hb2 b1a ba b1 g0 g1 g2 g3 p0 p1 p2 p3 u0 u1 v0 v1 n0 n1 n2 n3
  obtain ⟨g0, g1, g2, g3, p0, p1, p2, p3, u0, u1, v0, v1, n0, n1, n2, n3⟩ := M.out
  have HO := Lib.hid ho
  clear ho
  cases o with
  | true =>
    go_wp2_with fail
    go_ret
    exact ⟨rfl, by rw [hB]; exact b2⟩
  | false =>
  go_wp2_with fail
  cases hbad : (checkRs W H S ld [l] && pushB a b c d) with
  | false =>
    refine (grow_bad W H S a b c d vL (.slice A n cap) ld l _ (HLd.out.below (by rw [hB]; exact b2)) (HL.out.below (by rw [hB]; exact b2)) hbad).mono ?_
    rintro e w3 ⟨rfl, hb3⟩
    have b3 := b2.trans (hb3.mono M.out.le)
    have M := Lib.hid (M.out.below hb3)
    clear hb3 b2 hbad g0 g1 g2 g3 p0 p1 p2 p3 u0 u1 v0 v1 n0 n1 n2 n3
    obtain ⟨g0, g1, g2, g3, p0, p1, p2, p3, u0, u1, v0, v1, n0, n1, n2, n3⟩ := M.out
    go_wp2_with fail
    refine (cells_gr W H S vL (.slice A n cap) ld l _ (HLd.out.below (by rw [hB]; exact b3)) (HL.out.below (by rw [hB]; exact b3))).mono ?_
    rintro e w4 ⟨⟨v', rfl, hv'⟩, hb4⟩
    have b4 := b3.trans (hb4.mono M.out.le)
    obtain ⟨E, hE⟩ : ∃ E, argE (checkRs W H S ld [l]) = E := ⟨_, rfl⟩
    rw [hE]
    obtain ⟨Ac, cc, rfl, -⟩ := hv'
    obtain ⟨m, hm⟩ : ∃ m, (if checkRs W H S ld [l] = true then cellsL l else []).length = m := ⟨_, rfl⟩
    rw [hm]
    clear hb4 b3 hE hm g0 g1 g2 g3 p0 p1 p2 p3 u0 u1 v0 v1 n0 n1 n2 n3
    go_wp2_with fail
    go_ret
    exact ⟨rfl, by rw [hB]; exact b4⟩
  | true =>
  simp only [Bool.and_eq_true] at hbad
  have hkC := hbad.1
  simp only [checkRs, List.all_cons, List.all_nil, Bool.and_true, Bool.and_eq_true] at hkC
  obtain ⟨hW, hH, hS, -⟩ := checkG_iff hkC.1
  have hmost := HO.out (by first | rfl | trivial) (by omega) (by omega) (by omega) (by omega)
  have HM := Lib.hid hmost
  have HK := Lib.hid hbad
  have HG := Lib.hid hkC
  clear hmost hbad hkC HO
  refine (grow_gr W H S a b c d vL (.slice A n cap) ld l _ (HLd.out.below (by rw [hB]; exact b2)) (HL.out.below (by rw [hB]; exact b2)) HK.out.1 HK.out.2).mono ?_
  rintro e w3 ⟨⟨R, hR, vo, rfl, hvo⟩, hb3⟩
  have hRl := reg_len hW hH hR HM.out
  rw [if_pos hRl] at hvo
  rw [if_pos hRl, if_pos hRl]
  obtain ⟨off, hoff⟩ : ∃ o, offL W H (leadOf S a b c d) l = o := ⟨_, rfl⟩
  rw [hoff]
  have HOff := Lib.hid hoff
  have b3 := b2.trans (hb3.mono M.out.le)
  have M := Lib.hid (M.out.below hb3)
  have HR := Lib.hid hR
  have HV := Lib.hid hvo
  clear hb3 b2 hRl hoff hR hvo g0 g1 g2 g3 p0 p1 p2 p3 u0 u1 v0 v1 n0 n1 n2 n3
  obtain ⟨g0, g1, g2, g3, p0, p1, p2, p3, u0, u1, v0, v1, n0, n1, n2, n3⟩ := M.out
  go_wp2_with fail
  refine (cells_gr W H S vL (.slice A n cap) ld l _ (HLd.out.below (by rw [hB]; exact b3)) (HL.out.below (by rw [hB]; exact b3))).mono ?_
  rintro e w4 ⟨⟨v', rfl, hv'⟩, hb4⟩
  rw [HK.out.1, argE_true]
  rw [if_pos HK.out.1] at hv'
  have b4 := b3.trans (hb4.mono M.out.le)
  have M := Lib.hid (M.out.below hb4)
  have HV := Lib.hid (HV.out.below hb4)
  obtain ⟨Ac, cc, rfl, hcc, hcm, hcs⟩ := hv'
  obtain ⟨m, hm⟩ : ∃ m, (cellsL l).length = m := ⟨_, rfl⟩
  rw [hm] at hcc hcs ⊢
  unfold maxLen at hcm
  clear hb4 b3 g0 g1 g2 g3 p0 p1 p2 p3 u0 u1 v0 v1 n0 n1 n2 n3
  obtain ⟨g0, g1, g2, g3, p0, p1, p2, p3, u0, u1, v0, v1, n0, n1, n2, n3⟩ := M.out
  by_cases hm0 : m = 0
  · subst hm0
    clear hcs hm
    go_wp2_with fail
    go_ret
    exact ⟨rfl, by rw [hB]; exact b4⟩
  -- the cell
  obtain ⟨bc, oc, rfl, hbc, hcs⟩ := hcs (by omega)
  have hmI : 1 ≤ (m : Int) := by omega
  obtain ⟨j, hj⟩ : ∃ R, t.tmod (m : Int) = R := ⟨_, rfl⟩
  have hjb := tmod_in (t := t) (n := (m : Int)) ht.1 hmI
  rw [hj] at hjb
  obtain ⟨⟨cx, cy⟩, hc⟩ : ∃ q, (cellsL l)[j.toNat]? = some q := ⟨_, List.getElem?_eq_getElem (by omega)⟩
  have k0 := hcs j.toNat 0 _ _ hc rfl
  have k1 := hcs j.toNat 1 _ _ hc rfl
  rw [Nat.add_zero] at k0
  have hin := List.mem_of_getElem? hc
  have HC := Lib.hid hin
  obtain ⟨r, hr, hry, hrf, hrt⟩ := cellsL_in hin
  have hrB := HG.out.2
  simp only [rightB, Bool.and_eq_true, decide_eq_true_eq] at hrB
  have hrr := right_rows hrB.1 r hr
  have hcx : 0 ≤ cx ∧ cx < W := by omega
  have hcy : 0 ≤ cy ∧ cy < H := by omega
  clear hrr hrB hry hrf hrt hr hin hcs
  have e1 : wrap64 j = j := wrapId _ (by omega) (by omega)
  have e2 : wrap64 t = t := wrapId _ (by omega) (by omega)
  have hmz : ¬ (m : Int) = 0 := by omega
  have hj0 : 0 ≤ j := hjb.1
  have hj1 : j < (m : Int) := hjb.2
  go_upto_region 9 with fail
  have he : Below w4.heap.size w4 (w4.alloc (.cells #[.int .i64 cx, .int .i64 cy] 39)) := (Below.refl _ _).alloc (Nat.le_refl _) _
  have b5 := b4.trans (he.mono M.out.le)
  have M := Lib.hid (M.out.below he)
  have HV := Lib.hid (HV.out.below he)
  have k0 : (w4.alloc (.cells #[.int .i64 cx, .int .i64 cy] 39)).cell? ⟨w4.heap.size, 0, none⟩ = some (.int .i64 cx) := by simp [go_sem]
  have k1 : (w4.alloc (.cells #[.int .i64 cx, .int .i64 cy] 39)).cell? ⟨w4.heap.size, 1, none⟩ = some (.int .i64 cy) := by simp [go_sem]
  have nX : w4.heap.size < (w4.alloc (.cells #[.int .i64 cx, .int .i64 cy] 39)).heap.size := by simp
  have qX : B + 1 + 1 + 1 < w4.heap.size := n3
  obtain ⟨X, hX⟩ : ∃ X, w4.heap.size = X := ⟨_, rfl⟩
  obtain ⟨w5, hw5⟩ : ∃ w5, w4.alloc (.cells #[.int .i64 cx, .int .i64 cy] 39) = w5 := ⟨_, rfl⟩
  rw [hw5] at k0 k1 nX b5 M HV ⊢
  rw [hX] at k0 k1 nX qX ⊢
  clear hw5 he b4 hX hmz hj0 hj1 e1 e2 hc hj hjb g0 g1 g2 g3 p0 p1 p2 p3 u0 u1 v0 v1 n0 n1 n2 n3
  obtain ⟨g0, g1, g2, g3, p0, p1, p2, p3, u0, u1, v0, v1, n0, n1, n2, n3⟩ := M.out
  go_wp2_with fail
  refine (pick_gr W H S cx cy x1 x2 vL _ hS (by omega) (by omega) HT.out.1 HT.out.2.1).mono ?_
  rintro e w6 ⟨⟨px, py, rfl, hpx, hpy⟩, hb6⟩
  have b6 := b5.trans (hb6.mono M.out.le)
  have M := Lib.hid (M.out.below hb6)
  have HV := Lib.hid (HV.out.below hb6)
  have k0 := (hb6.cell (p := ⟨X, 0, none⟩) nX).trans k0
  have k1 := (hb6.cell (p := ⟨X, 1, none⟩) nX).trans k1
  have nX := Nat.lt_of_lt_of_le nX hb6.size
  have m1 : 0 ≤ cx * S ∧ cx * S ≤ 12800000 := by
    have a1 := Int.mul_nonneg hcx.1 (show 0 ≤ S by omega)
    have a2 := Int.mul_le_mul (show cx ≤ 256 by omega) hS.2 (by omega) (by omega)
    omega
  have m2 : 0 ≤ cy * S ∧ cy * S ≤ 12800000 := by
    have a1 := Int.mul_nonneg hcy.1 (show 0 ≤ S by omega)
    have a2 := Int.mul_le_mul (show cy ≤ 256 by omega) hS.2 (by omega) (by omega)
    omega
  obtain ⟨sx, hsx⟩ : ∃ q, cx * S + px = q := ⟨_, rfl⟩
  obtain ⟨sy, hsy⟩ : ∃ q, cy * S + py = q := ⟨_, rfl⟩
  have hsxb : 0 ≤ sx ∧ sx ≤ 12900000 := by omega
  have hsyb : 0 ≤ sy ∧ sy ≤ 12900000 := by omega
  rw [hsx, hsy]
  have HP := Lib.hid (And.intro hpx (And.intro hpy (And.intro hsx hsy)))
  clear hb6 b5 hpx hpy hsx hsy m1 m2 g0 g1 g2 g3 p0 p1 p2 p3 u0 u1 v0 v1 n0 n1 n2 n3
  obtain ⟨g0, g1, g2, g3, p0, p1, p2, p3, u0, u1, v0, v1, n0, n1, n2, n3⟩ := M.out
  go_upto_region 10 with fail
  have he : Below w6.heap.size w6 (w6.alloc (.cells #[.int .i64 sx, .int .i64 sy] 26)) := (Below.refl _ _).alloc (Nat.le_refl _) _
  have M6 := M
  have K0 := Lib.hid k0
  have K1 := Lib.hid k1
  have HNX := Lib.hid nX
  have M := Lib.hid (M.out.below he)
  have s0 : (w6.alloc (.cells #[.int .i64 sx, .int .i64 sy] 26)).cell? ⟨w6.heap.size, 0, none⟩ = some (.int .i64 sx) := by simp [go_sem]
  have s1 : (w6.alloc (.cells #[.int .i64 sx, .int .i64 sy] 26)).cell? ⟨w6.heap.size, 1, none⟩ = some (.int .i64 sy) := by simp [go_sem]
  have f0 : (w6.alloc (.cells #[.int .i64 sx, .int .i64 sy] 26)).frozen? ⟨w6.heap.size, 0, none⟩ = false := by simp [go_sem]
  have f1 : (w6.alloc (.cells #[.int .i64 sx, .int .i64 sy] 26)).frozen? ⟨w6.heap.size, 1, none⟩ = false := by simp [go_sem]
  have nY : w6.heap.size < (w6.alloc (.cells #[.int .i64 sx, .int .i64 sy] 26)).heap.size := by simp
  obtain ⟨w7, hw7⟩ : ∃ w7, w6.alloc (.cells #[.int .i64 sx, .int .i64 sy] 26) = w7 := ⟨_, rfl⟩
  rw [hw7] at M s0 s1 f0 f1 nY he ⊢
  have cY := Lib.hid he
  have B6 := Lib.hid b6
  obtain ⟨Y, hY⟩ : ∃ Y, w6.heap.size = Y := ⟨_, rfl⟩
  have HY := Lib.hid hY
  have qY : X < Y := by omega
  rw [hY] at s0 s1 f0 f1 nY ⊢
  clear hw7 he b6 hY k0 k1 nX g0 g1 g2 g3 p0 p1 p2 p3 u0 u1 v0 v1 n0 n1 n2 n3
  obtain ⟨g0, g1, g2, g3, p0, p1, p2, p3, u0, u1, v0, v1, n0, n1, n2, n3⟩ := M.out
  have hpu := pushB_iff HK.out.2
  go_wp2_with fail
  refine (move_gr a b c d y1 y2 _ hpu.1 hpu.2.1 hpu.2.2.1 hpu.2.2.2 HT.out.2.2.1 HT.out.2.2.2).mono ?_
  rintro e w8 ⟨⟨mx, my, rfl, hmx, hmy⟩, hb8⟩
  have cY := Lib.hid (cY.out.trans (hb8.mono (by have := HY.out; omega)))
  have M := Lib.hid (M6.out.below cY.out)
  have s0 := (hb8.cell (p := ⟨Y, 0, none⟩) nY).trans s0
  have s1 := (hb8.cell (p := ⟨Y, 1, none⟩) nY).trans s1
  have f0 := (hb8.frozen (p := ⟨Y, 0, none⟩) nY).trans f0
  have f1 := (hb8.frozen (p := ⟨Y, 1, none⟩) nY).trans f1
  have nY := Nat.lt_of_lt_of_le nY hb8.size
  have hmxb : -16777216 ≤ mx ∧ mx ≤ 16777216 := by omega
  have hmyb : -16777216 ≤ my ∧ my ≤ 16777216 := by omega
  have HMv := Lib.hid (And.intro hmx hmy)
  clear hb8 hmx hmy hpu g0 g1 g2 g3 p0 p1 p2 p3 u0 u1 v0 v1 n0 n1 n2 n3
  obtain ⟨g0, g1, g2, g3, p0, p1, p2, p3, u0, u1, v0, v1, n0, n1, n2, n3⟩ := M.out
  go_upto_region 11 with fail
  have he : Below w8.heap.size w8 (w8.alloc (.cells #[.int .i64 mx, .int .i64 my] 26)) := (Below.refl _ _).alloc (Nat.le_refl _) _
  have cY := Lib.hid (cY.out.trans (he.mono (by have := HY.out; omega)))
  have M := Lib.hid (M6.out.below cY.out)
  have s0 := (he.cell (p := ⟨Y, 0, none⟩) nY).trans s0
  have s1 := (he.cell (p := ⟨Y, 1, none⟩) nY).trans s1
  have f0 := (he.frozen (p := ⟨Y, 0, none⟩) nY).trans f0
  have f1 := (he.frozen (p := ⟨Y, 1, none⟩) nY).trans f1
  have nY' := Nat.lt_of_lt_of_le nY he.size
  have t0 : (w8.alloc (.cells #[.int .i64 mx, .int .i64 my] 26)).cell? ⟨w8.heap.size, 0, none⟩ = some (.int .i64 mx) := by simp [go_sem]
  have t1 : (w8.alloc (.cells #[.int .i64 mx, .int .i64 my] 26)).cell? ⟨w8.heap.size, 1, none⟩ = some (.int .i64 my) := by simp [go_sem]
  obtain ⟨w9, hw9⟩ : ∃ w9, w8.alloc (.cells #[.int .i64 mx, .int .i64 my] 26) = w9 := ⟨_, rfl⟩
  rw [hw9] at M s0 s1 f0 f1 nY' t0 t1 cY ⊢
  obtain ⟨Z, hZ⟩ : ∃ Z, w8.heap.size = Z := ⟨_, rfl⟩
  rw [hZ] at t0 t1 nY ⊢
  clear hw9 he hZ g0 g1 g2 g3 p0 p1 p2 p3 u0 u1 v0 v1 n0 n1 n2 n3
  obtain ⟨g0, g1, g2, g3, p0, p1, p2, p3, u0, u1, v0, v1, n0, n1, n2, n3⟩ := M.out
  have r1 : wrap64 (sx + mx) = sx + mx := wrapId _ (by omega) (by omega)
  have r2 : wrap64 (sy + my) = sy + my := wrapId _ (by omega) (by omega)
  go_upto_region 12 with fail
  obtain ⟨ex, hex⟩ : ∃ q, sx + mx = q := ⟨_, rfl⟩
  obtain ⟨ey, hey⟩ : ∃ q, sy + my = q := ⟨_, rfl⟩
  rw [hex, hey]
  have cY := Lib.hid ((cY.out.setCell (p := ⟨Y, 0, none⟩) (by have := HY.out; simp; omega) (.int .i64 ex)).setCell (p := ⟨Y, 1, none⟩) (by have := HY.out; simp; omega) (.int .i64 ey))
  have M := Lib.hid (M6.out.below cY.out)
  have s0' : ((w9.setCell ⟨Y, 0, none⟩ (.int .i64 ex)).setCell ⟨Y, 1, none⟩ (.int .i64 ey)).cell? ⟨Y, 0, none⟩ = some (.int .i64 ex) := by simp [go_sem, s0, s1]
  have s1' : ((w9.setCell ⟨Y, 0, none⟩ (.int .i64 ex)).setCell ⟨Y, 1, none⟩ (.int .i64 ey)).cell? ⟨Y, 1, none⟩ = some (.int .i64 ey) := by simp [go_sem, s0, s1]
  obtain ⟨w10, hw10⟩ : ∃ w10, (w9.setCell ⟨Y, 0, none⟩ (.int .i64 ex)).setCell ⟨Y, 1, none⟩ (.int .i64 ey) = w10 := ⟨_, rfl⟩
  rw [hw10] at M s0' s1' cY ⊢
  have hled := led_of (e := ex) hS.1 HP.out.1 HMv.out.1 (by rw [HP.out.2.2.1]; exact hex)
  have hled2 := led_of (e := ey) hS.1 HP.out.2.1 HMv.out.2 (by rw [HP.out.2.2.2]; exact hey)
  have HLx := Lib.hid hled
  have HLy := Lib.hid hled2
  have hexb : -17000000 ≤ ex ∧ ex ≤ 30000000 := by omega
  have heyb : -17000000 ≤ ey ∧ ey ≤ 30000000 := by omega
  have b10 := B6.out.trans (cY.out.mono M6.out.le)
  have nY10 : Y < w10.heap.size := by rw [← hw10]; simp; omega
  have hrB := HG.out.2
  simp only [rightB, Bool.and_eq_true, decide_eq_true_eq] at hrB
  have HRows := Lib.hid (right_rows hrB.1)
  have hcp := Lib.hid hcx
  have hcq := Lib.hid hcy
  clear hw10 hled hled2 r1 r2 s0 s1 f0 f1 t0 t1 nY nY' hex hey hsxb hsyb hmxb hmyb hrB g0 g1 g2 g3 p0 p1 p2 p3 u0 u1 v0 v1 n0 n1 n2 n3
  obtain ⟨g0, g1, g2, g3, p0, p1, p2, p3, u0, u1, v0, v1, n0, n1, n2, n3⟩ := M.out
  have m1 : 0 ≤ W * S ∧ W * S ≤ 12800000 := by
    have a1 := Int.mul_nonneg (show 0 ≤ W by omega) (show 0 ≤ S by omega)
    have a2 := Int.mul_le_mul hW.2 hS.2 (by omega) (by omega)
    omega
  have m2 : 0 ≤ H * S ∧ H * S ≤ 12800000 := by
    have a1 := Int.mul_nonneg (show 0 ≤ H by omega) (show 0 ≤ S by omega)
    have a2 := Int.mul_le_mul hH.2 hS.2 (by omega) (by omega)
    omega
  obtain ⟨WS, hWS⟩ : ∃ q, W * S = q := ⟨_, rfl⟩
  obtain ⟨HS, hHS⟩ : ∃ q, H * S = q := ⟨_, rfl⟩
  rw [hWS] at m1
  rw [hHS] at m2
  have r1 : wrap64 WS = WS := wrapId _ (by omega) (by omega)
  have r2 : wrap64 HS = HS := wrapId _ (by omega) (by omega)
  have HWS := Lib.hid (And.intro hWS (And.intro hHS (And.intro m1 m2)))
  have hoff : (ex < 0 ∨ ey < 0 ∨ WS ≤ ex ∨ HS ≤ ey) → off = true := fun h => by
    rw [← HOff.out]
    exact off_of hW hH hS HRows.out HK.out.2 HC.out HLx.out HLy.out (by rw [hWS, hHS]; exact h)
  have HOn := Lib.hid hoff
  clear hoff m1 m2 HOff
  by_cases o1 : ex < 0
  · have ho := HOn.out (.inl o1)
    subst ho
    go_wp2_with fail
    go_ret
    exact ⟨rfl, by first | exact b10 | (rw [hB]; exact b10)⟩
  by_cases o2 : ey < 0
  · have ho := HOn.out (.inr (.inl o2))
    subst ho
    go_wp2_with fail
    go_ret
    exact ⟨rfl, by first | exact b10 | (rw [hB]; exact b10)⟩
  by_cases o3 : WS ≤ ex
  · have ho := HOn.out (.inr (.inr (.inl o3)))
    subst ho
    go_wp2_with fail
    go_ret
    exact ⟨rfl, by first | exact b10 | (rw [hB]; exact b10)⟩
  by_cases o4 : HS ≤ ey
  · have ho := HOn.out (.inr (.inr (.inr o4)))
    subst ho
    go_wp2_with fail
    go_ret
    exact ⟨rfl, by first | exact b10 | (rw [hB]; exact b10)⟩
  go_wp2_with fail
  obtain ⟨hWS', hHS', m1, m2⟩ := HWS.out
  have hdx : 0 ≤ ex / S ∧ ex / S < W := ⟨div_lo hS.1 (by omega), div_hi hS.1 (by rw [hWS']; omega)⟩
  have hdy : 0 ≤ ey / S ∧ ey / S < H := ⟨div_lo hS.1 (by omega), div_hi hS.1 (by rw [hHS']; omega)⟩
  have hcv : cellV W H S ld (ex, ey) = ((ex / S, ey / S), 0) := by
    unfold cellV
    have hn : nearS (ex, ey) = true := by
      simp only [nearS, Bool.and_eq_true]
      exact ⟨nearC_of (by omega), nearC_of (by omega)⟩
    have i1 : inB (ex / S) 0 (W - 1) = true := by simp only [inB, Bool.and_eq_true, decide_eq_true_eq]; omega
    have i2 : inB (ey / S) 0 (H - 1) = true := by simp only [inB, Bool.and_eq_true, decide_eq_true_eq]; omega
    rw [HG.out.1, hn]
    simp only [Bool.and_self, if_true, i1, i2]
  have hHas := in_of hW hH hS HRows.out HK.out.2 HR.out HC.out HLx.out HLy.out hdx hdy
  have HHas := Lib.hid hHas
  have HBackOf := Lib.hid (fun (R : List R3) hR => back_of (R := R) hW hH hS HK.out.2 hR hcp.out hcq.out HLx.out HLy.out hdx hdy)
  obtain ⟨dx, hdx0⟩ : ∃ q, ex / S = q := ⟨_, rfl⟩
  obtain ⟨dy, hdy0⟩ : ∃ q, ey / S = q := ⟨_, rfl⟩
  rw [hdx0, hdy0] at hcv HHas HBackOf
  rw [hdx0] at hdx
  rw [hdy0] at hdy
  refine (cellOf_gr W H S ex ey vL ld _ (HLd.out.below (by rw [hB]; exact b10))).mono ?_
  rintro e w11 ⟨rfl, hb11⟩
  rw [hcv]
  dsimp only
  have b11 := b10.trans (hb11.mono M.out.le)
  have cY := Lib.hid (cY.out.trans (hb11.mono (by have := HY.out; omega)))
  have M := Lib.hid (M.out.below hb11)
  clear m1 m2 hb11 b10 hcv hHas hdx0 hdy0 hWS hHS hWS' hHS' r1 r2 o1 o2 o3 o4 hexb heyb s0' s1' nY10 g0 g1 g2 g3 p0 p1 p2 p3 u0 u1 v0 v1 n0 n1 n2 n3
  obtain ⟨g0, g1, g2, g3, p0, p1, p2, p3, u0, u1, v0, v1, n0, n1, n2, n3⟩ := M.out
  go_upto_region 15 with fail
  have he : Below w11.heap.size w11 (w11.alloc (.cells #[.int .i64 dx, .int .i64 dy] 39)) := (Below.refl _ _).alloc (Nat.le_refl _) _
  have b12 := b11.trans (he.mono M.out.le)
  have nYY : w6.heap.size ≤ w11.heap.size := cY.out.size
  have cY := Lib.hid (cY.out.trans (he.mono nYY))
  have M := Lib.hid (M.out.below he)
  have d0 : (w11.alloc (.cells #[.int .i64 dx, .int .i64 dy] 39)).cell? ⟨w11.heap.size, 0, none⟩ = some (.int .i64 dx) := by simp [go_sem]
  have d1 : (w11.alloc (.cells #[.int .i64 dx, .int .i64 dy] 39)).cell? ⟨w11.heap.size, 1, none⟩ = some (.int .i64 dy) := by simp [go_sem]
  have nD : w11.heap.size < (w11.alloc (.cells #[.int .i64 dx, .int .i64 dy] 39)).heap.size := by simp
  obtain ⟨w12, hw12⟩ : ∃ w12, w11.alloc (.cells #[.int .i64 dx, .int .i64 dy] 39) = w12 := ⟨_, rfl⟩
  rw [hw12] at M d0 d1 nD b12 cY ⊢
  obtain ⟨D, hD⟩ : ∃ D, w11.heap.size = D := ⟨_, rfl⟩
  rw [hD] at d0 d1 nD ⊢
  clear hw12 he b11 hD nYY g0 g1 g2 g3 p0 p1 p2 p3 u0 u1 v0 v1 n0 n1 n2 n3
  obtain ⟨g0, g1, g2, g3, p0, p1, p2, p3, u0, u1, v0, v1, n0, n1, n2, n3⟩ := M.out
  have HO := Lib.hid (fun w => one_gr dx dy w (by omega))
  have HBk := Lib.hid (fun (va : Value) (wa : World) hLa hva => back_one W H S a b c d dx dy vL va ld wa hLa hva HG.out.1 hdx hdy HK.out.2 HM.out)
  have HLd12 := Lib.hid (HLd.out.below (by rw [hB]; exact b12))
  go_region_held3 (fun W' => W'.cell? ⟨B, 0, none⟩ = some (.int .i64 W) ∧ W'.cell? ⟨B, 1, none⟩ = some (.int .i64 H) ∧ W'.cell? ⟨B, 2, none⟩ = some (.int .i64 S) ∧ W'.cell? ⟨B, 3, none⟩ = some vL ∧ W'.cell? ⟨B + 1, 0, none⟩ = some (.int .i64 a) ∧ W'.cell? ⟨B + 1, 1, none⟩ = some (.int .i64 b) ∧ W'.cell? ⟨B + 1, 2, none⟩ = some (.int .i64 c) ∧ W'.cell? ⟨B + 1, 3, none⟩ = some (.int .i64 d) ∧ W'.cell? ⟨D, 0, none⟩ = some (.int .i64 dx) ∧ W'.cell? ⟨D, 1, none⟩ = some (.int .i64 dy))
    (first | exact ⟨g0, g1, g2, g3, p0, p1, p2, p3, d0, d1⟩ | exact ⟨ga0, ga1, ga2, ga3, pa0, pa1, pa2, pa3, da0, da1⟩ | exact ⟨gb0, gb1, gb2, gb3, pb0, pb1, pb2, pb3, db0, db1⟩)
    (first | (go_at_call 17; (with_reducible refine (HO.out _).mono ?_); rintro e wa ⟨⟨va, rfl, hva⟩, hba⟩; have hba' : Below w12.heap.size w12 wa := ⟨hba.os, hba.tape, hba.output, hba.size, hba.block⟩; have ga0 := (hba'.cell (p := ⟨B, 0, none⟩) n0).trans g0; have ga1 := (hba'.cell (p := ⟨B, 1, none⟩) n0).trans g1; have ga2 := (hba'.cell (p := ⟨B, 2, none⟩) n0).trans g2; have ga3 := (hba'.cell (p := ⟨B, 3, none⟩) n0).trans g3; have pa0 := (hba'.cell (p := ⟨B + 1, 0, none⟩) n1).trans p0; have pa1 := (hba'.cell (p := ⟨B + 1, 1, none⟩) n1).trans p1; have pa2 := (hba'.cell (p := ⟨B + 1, 2, none⟩) n1).trans p2; have pa3 := (hba'.cell (p := ⟨B + 1, 3, none⟩) n1).trans p3; have da0 := (hba'.cell (p := ⟨D, 0, none⟩) nD).trans d0; have da1 := (hba'.cell (p := ⟨D, 1, none⟩) nD).trans d1; have HBa := Lib.hid (HBk.out va wa (HLd12.out.below hba') hva); skip) | (go_at_call 16; (with_reducible refine HBa.out.mono ?_); rintro e wb ⟨⟨vb, rfl, Rb, hRb, hvb⟩, hbb⟩; have hbb' : Below wa.heap.size wa wb := ⟨hbb.os, hbb.tape, hbb.output, hbb.size, hbb.block⟩; have gb0 := (hbb'.cell (p := ⟨B, 0, none⟩) (Nat.lt_of_lt_of_le n0 hba'.size)).trans ga0; have gb1 := (hbb'.cell (p := ⟨B, 1, none⟩) (Nat.lt_of_lt_of_le n0 hba'.size)).trans ga1; have gb2 := (hbb'.cell (p := ⟨B, 2, none⟩) (Nat.lt_of_lt_of_le n0 hba'.size)).trans ga2; have gb3 := (hbb'.cell (p := ⟨B, 3, none⟩) (Nat.lt_of_lt_of_le n0 hba'.size)).trans ga3; have pb0 := (hbb'.cell (p := ⟨B + 1, 0, none⟩) (Nat.lt_of_lt_of_le n1 hba'.size)).trans pa0; have pb1 := (hbb'.cell (p := ⟨B + 1, 1, none⟩) (Nat.lt_of_lt_of_le n1 hba'.size)).trans pa1; have pb2 := (hbb'.cell (p := ⟨B + 1, 2, none⟩) (Nat.lt_of_lt_of_le n1 hba'.size)).trans pa2; have pb3 := (hbb'.cell (p := ⟨B + 1, 3, none⟩) (Nat.lt_of_lt_of_le n1 hba'.size)).trans pa3; have db0 := (hbb'.cell (p := ⟨D, 0, none⟩) (Nat.lt_of_lt_of_le nD hba'.size)).trans da0; have db1 := (hbb'.cell (p := ⟨D, 1, none⟩) (Nat.lt_of_lt_of_le nD hba'.size)).trans da1; skip))
  rename_i hHeld
  clear hHeld
  have s12 : w6.heap.size ≤ w12.heap.size := cY.out.size
  have sa := hba'.size
  have sb := hbb'.size
  have cb : Below w6.heap.size w6 wb := (cY.out.trans (hba'.mono s12)).trans (hbb'.mono (by omega))
  have k0 := (cb.cell (p := ⟨X, 0, none⟩) HNX.out).trans K0.out
  have k1 := (cb.cell (p := ⟨X, 1, none⟩) HNX.out).trans K1.out
  have b13 := (b12.trans (hba'.mono (by omega))).trans (hbb'.mono (by omega))
  have HV13 := Lib.hid (HV.out.below cb)
  have HVB := Lib.hid hvb
  have hBo := HBackOf.out Rb hRb
  have HBo := Lib.hid hBo
  have nX : X < wb.heap.size := by have := HNX.out; omega
  obtain ⟨Ao, co, rfl, -⟩ := (show Runs w6 vo R from HV.out)
  obtain ⟨Ab, cb', rfl, -⟩ := (show Runs wb vb Rb from hvb)
  clear cb s12 sa sb hba hba' hbb hbb' hBo hvb hRb hva g0 g1 g2 g3 p0 p1 p2 p3 u0 u1 v0 v1 d0 d1 ga0 ga1 ga2 ga3 pa0 pa1 pa2 pa3 da0 da1 gb0 gb1 gb2 gb3 pb0 pb1 pb2 pb3
  go_wp2_with fail
  refine (has_gr _ R dx dy _ HV13.out).mono ?_
  rintro e w13 ⟨rfl, hb13⟩
  rw [HHas.out]
  have k0 := (hb13.cell (p := ⟨X, 0, none⟩) nX).trans k0
  have k1 := (hb13.cell (p := ⟨X, 1, none⟩) nX).trans k1
  go_wp2_with fail
  refine (has_gr _ Rb cx cy _ (HVB.out.below hb13)).mono ?_
  rintro e w14 ⟨rfl, hb14⟩
  rw [HBo.out]
  have sb := hb13.size
  have b14 := (b13.trans (hb13.mono (by omega))).trans (hb14.mono (by omega))
  go_wp2_with fail
  go_ret
  exact ⟨rfl, by first | exact b14 | (rw [hB]; exact b14)⟩
end Go.Proofs.Ytnbdnnbeiohmgaa
