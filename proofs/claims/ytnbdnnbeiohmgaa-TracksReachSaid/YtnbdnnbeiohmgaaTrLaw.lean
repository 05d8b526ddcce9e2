/- The walk of the law TracksReach. -/
import Derived.Test.YtnbdnnbeiohmgaaTrCovers3
import Derived.Test.YtnbdnnbeiohmgaaTrCov3
import Derived.Test.YtnbdnnbeiohmgaaTrClone
import Derived.Test.YtnbdnnbeiohmgaaTrPart
import Derived.Test.YtnbdnnbeiohmgaaTkB
import Derived.Test.YtnbdnnbeiohmgaaTkA
import Derived.Test.YtnbdnnbeiohmgaaGrGreat
import Derived.Test.YtnbdnnbeiohmgaaGrAll
import Derived.Test.YtnbdnnbeiohmgaaGrPick
import Derived.StillTailTactics
import Derived.Deep.Cut
import Derived.Deep.Light
namespace Go.Proofs.Ytnbdnnbeiohmgaa
open Go.RowKit Go.Shelf Go.Lib

theorem hasL_rowR (n : Nat) (m : List S2) (p q : Int) : hasL (rowR n m) p q = true ↔ q = n ∧ inS p m := by
  rw [hasL_iff]
  simp only [rowR, List.mem_map, inS]
  constructor
  · rintro ⟨r, ⟨s, hs, rfl⟩, h1, h2, h3⟩
    exact ⟨h1.symm, s, hs, h2, h3⟩
  · rintro ⟨h1, s, hs, h2, h3⟩
    exact ⟨_, ⟨s, hs, rfl⟩, h1.symm, h2, h3⟩
theorem hasL_refR (P : Int → Int → Bool) (W : Nat) (p q : Int) : ∀ H : Nat, hasL (refR P W H) p q = true ↔ (0 ≤ p ∧ p < W) ∧ (0 ≤ q ∧ q < H) ∧ P p q = true
  | 0 => by
    simp only [refR, rowsR]
    simp [hasL]
    omega
  | H + 1 => by
    have ih := hasL_refR P W p q H
    have h2 := (runRow_spec (fun x => P x H) W).2.2 p
    unfold refR at ih ⊢
    rw [rowsR_succ, hasL_append, Bool.or_eq_true, ih, hasL_rowR, h2]
    constructor
    · rintro (⟨h1, h2, h3⟩ | ⟨rfl, h1, h2, h3⟩)
      · exact ⟨h1, by omega, h3⟩
      · exact ⟨⟨h1, h2⟩, by omega, h3⟩
    · rintro ⟨h1, h2, h3⟩
      by_cases e : q = H
      · subst e
        exact .inr ⟨rfl, h1.1, h1.2, h3⟩
      · exact .inl ⟨h1, by omega, h3⟩
theorem refR_mem (P : Int → Int → Bool) (W : Nat) : ∀ (H : Nat) (r : R3), r ∈ refR P W H → (0 ≤ r.1 ∧ r.1 < H) ∧ 0 ≤ r.2.1 ∧ r.2.2 ≤ W
  | 0, r, h => by simp [refR, rowsR] at h
  | H + 1, r, h => by
    unfold refR at h
    rw [rowsR_succ, List.mem_append] at h
    rcases h with h | h
    · have := refR_mem P W H r h
      omega
    · simp only [rowR, List.mem_map] at h
      obtain ⟨s, hs, rfl⟩ := h
      have := (runRow_spec (fun x => P x H) W).2.1 s hs
      dsimp only
      omega

/-- what the law keeps where -/
structure RcF (w W : World) (B : Nat) (gW gH gS : Int) (vL : Value) (cx cy x1 x2 : Int) : Prop where
  c0 : W.cell? ⟨B, 0, none⟩ = some (.int .i64 gW)
  c1 : W.cell? ⟨B, 1, none⟩ = some (.int .i64 gH)
  c2 : W.cell? ⟨B, 2, none⟩ = some (.int .i64 gS)
  c3 : W.cell? ⟨B, 3, none⟩ = some vL
  d0 : W.cell? ⟨B + 1, 0, none⟩ = some (.int .i64 cx)
  d1 : W.cell? ⟨B + 1, 1, none⟩ = some (.int .i64 cy)
  e0 : W.cell? ⟨B + 1 + 1, 0, none⟩ = some (.int .u32 x1)
  e1 : W.cell? ⟨B + 1 + 1, 1, none⟩ = some (.int .u32 x2)
  hb : Below B w W
  hz : B + 2 < W.heap.size
theorem RcF.below {w W W' : World} {B n : Nat} {gW gH gS : Int} {vL : Value} {cx cy x1 x2 : Int} (h : RcF w W B gW gH gS vL cx cy x1 x2) (k : Below n W W') (hn : B + 2 < n) : RcF w W' B gW gH gS vL cx cy x1 x2 := by
  obtain ⟨c0, c1, c2, c3, d0, d1, e0, e1, hb, hz⟩ := h
  exact ⟨(k.cell (by show B < n; omega)).trans c0, (k.cell (by show B < n; omega)).trans c1, (k.cell (by show B < n; omega)).trans c2, (k.cell (by show B < n; omega)).trans c3, (k.cell (by show B + 1 < n; omega)).trans d0, (k.cell (by show B + 1 < n; omega)).trans d1,
    (k.cell (by show B + 1 + 1 < n; omega)).trans e0, (k.cell (by show B + 1 + 1 < n; omega)).trans e1, hb.trans (k.mono (by omega)), Nat.lt_of_lt_of_le hz k.size⟩

set_option maxRecDepth 100000 in
set_option maxHeartbeats 32000000 in
theorem reach_tk (gW gH gS wd more cx cy x1 x2 : Int) (vL v : Value) (ld : List R3) (l : List (Int × Int)) (w : World) (hL : Runs w vL ld) (hv : Spots w v l) (hi : ∀ s, s ∈ l → i64 s.1 ∧ i64 s.2) (h1 : 0 ≤ x1 ∧ x1 ≤ 4294967295) (h2 : 0 ≤ x2 ∧ x2 ≤ 4294967295) :
    Calls Try.prog 6 #[.agg #[.int .i64 gW, .int .i64 gH, .int .i64 gS, vL], v, .int .i64 wd, .int .i64 more, .agg #[.int .i64 cx, .int .i64 cy], .agg #[.int .u32 x1, .int .u32 x2]] w fun e w' => e = .returned (.bool true) ∧ Below w.heap.size w w' := by
  have hvl : ∃ A n c, v = .slice A n c ∧ n = l.length := by
    obtain ⟨A, c, e, -⟩ := hv
    exact ⟨A, _, c, e, rfl⟩
  obtain ⟨A, n, c, rfl, hn⟩ := hvl
  have HL := Lib.hid hL
  have HV := Lib.hid hv
  have HI := Lib.hid hi
  have HX := Lib.hid (And.intro h1 h2)
  have HN := Lib.hid hn
  clear hL hv hi h1 h2 hn
  go_enter Try.func6, Try.ntmps6
  go_wp2_with fail
  have F0 : RcF w (((w.alloc (.cells #[.int .i64 gW, .int .i64 gH, .int .i64 gS, vL] 24)).alloc (.cells #[.int .i64 cx, .int .i64 cy] 39)).alloc (.cells #[.int .u32 x1, .int .u32 x2] 30)) w.heap.size gW gH gS vL cx cy x1 x2 := by
    refine ⟨by simp [go_sem], by simp [go_sem], by simp [go_sem], by simp [go_sem], by simp [go_sem], by simp [go_sem], by simp [go_sem], by simp [go_sem], ?_, by simp⟩
    exact (((Below.refl _ _).alloc (Nat.le_refl _) _).alloc (by simp) _).alloc (by simp; omega) _
  obtain ⟨w0, hw0⟩ : ∃ w0, ((w.alloc (.cells #[.int .i64 gW, .int .i64 gH, .int .i64 gS, vL] 24)).alloc (.cells #[.int .i64 cx, .int .i64 cy] 39)).alloc (.cells #[.int .u32 x1, .int .u32 x2] 30) = w0 := ⟨_, rfl⟩
  rw [hw0] at F0 ⊢
  clear hw0
  obtain ⟨B, hB⟩ : ∃ B, w.heap.size = B := ⟨_, rfl⟩
  rw [hB] at F0 ⊢
  refine (alive_tk _).mono ?_
  rintro e wa ⟨rfl, hb⟩
  have F1 := F0.below hb F0.hz
  clear hb F0
  obtain ⟨c0, c1, c2, c3, d0, d1, e0, e1, -, -⟩ := (id F1 : RcF w wa B gW gH gS vL cx cy x1 x2)
  go_wp2_with fail
  refine (great_gr gW gH gS 400 vL (.slice none 0 0) ld [] _ (HL.out.below (by rw [hB]; exact F1.hb)) (Lst.nil _) (fun u hu => by simp at hu)).mono ?_
  rintro e wb ⟨⟨o, rfl, ho⟩, hb⟩
  have F2 := F1.below hb F1.hz
  have HO := Lib.hid ho
  clear hb F1 ho c0 c1 c2 c3 d0 d1 e0 e1
  obtain ⟨c0, c1, c2, c3, d0, d1, e0, e1, -, -⟩ := (id F2 : RcF w wb B gW gH gS vL cx cy x1 x2)
  cases o with
  | true =>
    go_wp2_with fail
    go_ret
    exact ⟨rfl, by first | exact F2.hb | (rw [hB]; exact F2.hb)⟩
  | false =>
    by_cases h20 : 20 < n
    · have h20i : (20 : Int) < (n : Int) := by omega
      go_wp2_with fail
      go_ret
      exact ⟨rfl, by first | exact F2.hb | (rw [hB]; exact F2.hb)⟩
    · have h20i : ¬ (20 : Int) < (n : Int) := by omega
      go_wp2_with fail
      have hLb := HL.out.below (by rw [hB]; exact F2.hb : Below w.heap.size w wb)
      have hVb := HV.out.below (by rw [hB]; exact F2.hb : Below w.heap.size w wb)
      clear h20i c0 c1 c2 c3 d0 d1 e0 e1
      have h20' : l.length ≤ 20 := by have := HN.out; omega
      cases hok : coversOK gW gH gS ld l wd with
      | false =>
        refine (covers_bad gW gH gS wd vL _ ld l wb hLb hVb hok).mono ?_
        rintro e wc ⟨rfl, hb⟩
        have F3 := F2.below hb F2.hz
        clear hLb hVb
        go_wp2_with fail
        go_ret
        exact ⟨rfl, by first | exact F3.hb | (rw [hB]; exact F3.hb)⟩
      | true =>
        have hok2 := hok
        simp only [coversOK, Bool.and_eq_true] at hok2
        obtain ⟨⟨hg, ht⟩, hw⟩ := hok2
        obtain ⟨iW, iH, iS, -⟩ := checkG_iff hg
        have hwd : 0 ≤ wd ∧ wd ≤ 1048576 := by simpa [withinB] using hw
        have h400 := HO.out trivial (by omega) (by omega) iW.2 iH.2
        have hTr : Tr l := ⟨ht, HI.out⟩
        have hSea : Sea4 gW gH gS wd := ⟨iW, iH, iS, hwd⟩
        have hl0 : 0 < l.length := by
          simp only [checkB, Bool.and_eq_true] at ht
          have := ht.1.1
          simp [withinB] at this
          omega
        have HC := Lib.hid (covers_ok gW gH gS wd vL (.slice A n c) ld l wb hLb hVb hok h400 h20')
        have HTr := Lib.hid hTr
        have HSea := Lib.hid hSea
        have HG := Lib.hid hg
        have HOk := Lib.hid hok
        have H400 := Lib.hid h400
        have HL0 := Lib.hid (And.intro hl0 h20')
        have HWd := Lib.hid hwd
        clear hLb hVb hTr hSea hg ht hw hok h400 iW iH iS hwd hl0 h20'
        refine HC.out.mono ?_
        rintro e wc ⟨⟨v1, rfl, hv1⟩, hb⟩
        have F3 := F2.below hb F2.hz
        have HV1 := Lib.hid hv1
        clear hb F2 hv1 HC
        go_wp2_with fail
        refine (clone_sp (.slice A n c) l wc (HV.out.below (by rw [hB]; exact F3.hb)) HL0.out.1 (by have := HL0.out.2; omega)).mono ?_
        rintro e wk ⟨⟨v2, rfl, hown⟩, hb⟩
        have HOwn := Lib.hid hown
        have HBk := Lib.hid hb
        clear hown hb
        go_wp2_with fail
        refine (reverse_sp v2 l wc.heap.size wk HOwn.out HL0.out.1 (by have := HL0.out.2; omega) HBk.out.size).mono ?_
        rintro e wr ⟨rfl, hback, hb⟩
        have hbr := HBk.out.trans hb
        have F4 := F3.below hbr F3.hz
        have HBack := Lib.hid hback
        have HV1r := Lib.hid (HV1.out.below hbr)
        clear hb hback F3 hbr
        obtain ⟨c0, c1, c2, c3, -, -, -, -, -, -⟩ := (id F4 : RcF w wr B gW gH gS vL cx cy x1 x2)
        go_wp2_with fail
        have hokr : coversOK gW gH gS ld l.reverse wd = true := by
          simp only [coversOK, Bool.and_eq_true]
          exact ⟨⟨HG.out, HTr.out.back.ok⟩, by simp [withinB, HWd.out]⟩
        refine (covers_ok gW gH gS wd vL v2 ld l.reverse wr (HL.out.below (by rw [hB]; exact F4.hb)) HBack.out hokr H400.out (by rw [List.length_reverse]; exact HL0.out.2)).mono ?_
        rintro e ws ⟨⟨v3, rfl, hv3⟩, hb⟩
        have hEqc : cov gW gH gS wd l.reverse = cov gW gH gS wd l := funext fun p => funext fun q => reach_back HSea.out HTr.out
        rw [hEqc] at hv3
        have F5 := F4.below hb F4.hz
        have HV1s := Lib.hid (HV1r.out.below hb)
        have HV3 := Lib.hid hv3
        clear hb hv3 F4 hokr hEqc c0 c1 c2 c3
        go_wp2_with fail
        refine (same_gr v1 v3 _ ws HV1s.out HV3.out).mono ?_
        rintro e wm ⟨rfl, hb⟩
        have F6 := F5.below hb F5.hz
        have HV1m := Lib.hid (HV1s.out.below hb)
        clear hb F5
        by_cases k1 : wd ≤ more
        · by_cases k2 : more ≤ 1048576
          · obtain ⟨c0, c1, c2, c3, d0, d1, e0, e1, -, -⟩ := (id F6 : RcF w wm B gW gH gS vL cx cy x1 x2)
            go_wp2_with fail
            have hokm : coversOK gW gH gS ld l more = true := by
              have h := HOk.out
              have hwd := HWd.out
              simp only [coversOK, Bool.and_eq_true] at h ⊢
              exact ⟨h.1, by simp [withinB]; omega⟩
            refine (covers_ok gW gH gS more vL (.slice A n c) ld l wm (HL.out.below (by rw [hB]; exact F6.hb)) (HV.out.below (by rw [hB]; exact F6.hb)) hokm H400.out HL0.out.2).mono ?_
            rintro e wt ⟨⟨v4, rfl, hv4⟩, hb⟩
            have F8 := F6.below hb F6.hz
            have HV1t := Lib.hid (HV1m.out.below hb)
            have HV4 := Lib.hid hv4
            clear hb hv4 F6 hokm c0 c1 c2 c3 d0 d1 e0 e1
            go_wp2_with fail
            have hWm := HSea.out.W
            have hHm := HSea.out.H
            have hlenm : ∀ P, (refR P gW.toNat gH.toNat).length ≤ 8192 := fun P => by
              have h5 := refR_len P gW.toNat gH.toNat
              have h7 : ((gW.toNat * gH.toNat : Nat) : Int) ≤ 400 := by
                rw [Int.natCast_mul, Int.toNat_of_nonneg (by omega), Int.toNat_of_nonneg (by omega)]
                exact H400.out
              omega
            have hmemm : ∀ P r, r ∈ refR P gW.toNat gH.toNat → 0 ≤ r.1 ∧ r.1 < 256 ∧ 0 ≤ r.2.1 ∧ r.2.2 ≤ 256 := fun P r hr => by
              have := refR_mem P gW.toNat gH.toNat r hr
              omega
            refine (part_ref v1 v4 _ _ wt HV1t.out HV4.out (hmemm _) (hmemm _) (hlenm _) (hlenm _) (fun p q h => ?_)).mono ?_
            · rw [hasL_refR] at h ⊢
              exact ⟨h.1, h.2.1, reach_wider HSea.out HTr.out k1 k2 h.2.2⟩
            rintro e wm ⟨rfl, hb⟩
            have F6 := F8.below hb F8.hz
            have HV1m := Lib.hid (HV1t.out.below hb)
            clear hb F8 hmemm hlenm hWm hHm
            have hHas := has_gr v1 (refR (cov gW gH gS wd l) gW.toNat gH.toNat) cx cy wm HV1m.out
            obtain ⟨hh, hhe⟩ : ∃ hh, hasL (refR (cov gW gH gS wd l) gW.toNat gH.toNat) cx cy = hh := ⟨_, rfl⟩
            rw [hhe] at hHas
            have HHe := Lib.hid hhe
            have HHas := Lib.hid hHas
            clear hhe hHas
            obtain ⟨c0, c1, c2, c3, d0, d1, e0, e1, -, -⟩ := (id F6 : RcF w wm B gW gH gS vL cx cy x1 x2)
            go_wp2_with fail
            refine HHas.out.mono ?_
            rintro e wh ⟨rfl, hb⟩
            have F7 := F6.below hb F6.hz
            clear hb F6 c0 c1 c2 c3 d0 d1 e0 e1
            cases hh with
            | false =>
              go_wp2_with fail
              go_ret
              exact ⟨rfl, by first | exact F7.hb | (rw [hB]; exact F7.hb)⟩
            | true =>
              have hcov : cov gW gH gS wd l cx cy = true := ((hasL_refR _ _ _ _ _).1 HHe.out).2.2
              have hin := reach_in HSea.out HTr.out hcov
              have hS := HSea.out.S
              have hW := HSea.out.W
              have hH := HSea.out.H
              have hX := HX.out
              obtain ⟨T1, hT1⟩ : ∃ R, x1.tmod gS = R := ⟨_, rfl⟩
              obtain ⟨T2, hT2⟩ : ∃ R, x2.tmod gS = R := ⟨_, rfl⟩
              have t1 := tmod_in (t := x1) (n := gS) hX.1.1 hS.1
              have t2 := tmod_in (t := x2) (n := gS) hX.2.1 hS.1
              rw [hT1] at t1
              rw [hT2] at t2
              have m1 : 0 ≤ cx * gS ∧ cx * gS ≤ 12800000 := by
                have a1 := Int.mul_nonneg hin.1.1 (show 0 ≤ gS by omega)
                have a2 := Int.mul_le_mul (show cx ≤ 256 by omega) hS.2 (by omega) (by omega)
                omega
              have m2 : 0 ≤ cy * gS ∧ cy * gS ≤ 12800000 := by
                have a1 := Int.mul_nonneg hin.2.1 (show 0 ≤ gS by omega)
                have a2 := Int.mul_le_mul (show cy ≤ 256 by omega) hS.2 (by omega) (by omega)
                omega
              have hNr := reach_near HSea.out HTr.out hcov t1 t2
              obtain ⟨P1, hP1⟩ : ∃ R, cx * gS = R := ⟨_, rfl⟩
              obtain ⟨P2, hP2⟩ : ∃ R, cy * gS = R := ⟨_, rfl⟩
              rw [hP1, hP2] at hNr
              rw [hP1] at m1
              rw [hP2] at m2
              have HNr := Lib.hid hNr
              have e1' : IntKind.i64.wrap P1 = P1 := wrapK _ (by omega) (by omega)
              have e2' : IntKind.i64.wrap P2 = P2 := wrapK _ (by omega) (by omega)
              have e3' : IntKind.i64.wrap x1 = x1 := wrapK _ (by omega) (by omega)
              have e4' : IntKind.i64.wrap x2 = x2 := wrapK _ (by omega) (by omega)
              have e5' : IntKind.i64.wrap T1 = T1 := wrapK _ (by omega) (by omega)
              have e6' : IntKind.i64.wrap T2 = T2 := wrapK _ (by omega) (by omega)
              have e7' : IntKind.i64.wrap (P1 + T1) = P1 + T1 := wrapK _ (by omega) (by omega)
              have e8' : IntKind.i64.wrap (P2 + T2) = P2 + T2 := wrapK _ (by omega) (by omega)
              have hn0 : ¬ gS = 0 := by omega
              have hn0' : (gS == 0) = false := by simp; omega
              clear hcov hin hS hW hH hX t1 t2 m1 m2 hNr
              obtain ⟨c0, c1, c2, c3, d0, d1, e0, e1, -, -⟩ := (id F7 : RcF w wh B gW gH gS vL cx cy x1 x2)
              go_wp2_with fail
              have hzh : B + 1 + 1 < wh.heap.size := F7.hz
              have hzh1 : B + 1 < wh.heap.size := by omega
              have hzh0 : B < wh.heap.size := by omega
              go_region_held3 (fun W' => (W'.cell? ⟨B, 2, none⟩ = some (.int .i64 gS) ∧ W'.cell? ⟨B + 1, 0, none⟩ = some (.int .i64 cx) ∧ W'.cell? ⟨B + 1, 1, none⟩ = some (.int .i64 cy) ∧ W'.cell? ⟨B + 1 + 1, 0, none⟩ = some (.int .u32 x1) ∧ W'.cell? ⟨B + 1 + 1, 1, none⟩ = some (.int .u32 x2))) (first | exact ⟨c2, d0, d1, e0, e1⟩ | go_keep) (fail)
              rename_i hHeld
              clear hHeld c0 c1 c2 c3 d0 d1 e0 e1
              have s0 : (wh.alloc (.cells #[.int .i64 (P1 + T1), .int .i64 (P2 + T2)] 26)).drew.cell? ⟨wh.heap.size, 0, none⟩ = some (.int .i64 (P1 + T1)) := by simp [go_sem]
              have s1 : (wh.alloc (.cells #[.int .i64 (P1 + T1), .int .i64 (P2 + T2)] 26)).drew.cell? ⟨wh.heap.size, 1, none⟩ = some (.int .i64 (P2 + T2)) := by simp [go_sem]
              have hb8 : Below B w (wh.alloc (.cells #[.int .i64 (P1 + T1), .int .i64 (P2 + T2)] 26)).drew := belowDrew (F7.hb.alloc (by omega) _)
              generalize (wh.alloc (.cells #[.int .i64 (P1 + T1), .int .i64 (P2 + T2)] 26)).drew = w8 at s0 s1 hb8 ⊢
              go_wp2_with fail
              refine (near_all (.slice A n c) l (P1 + T1) (P2 + T2) wd w8 (HV.out.below (by rw [hB]; exact hb8))).mono ?_
              rintro e w9 ⟨rfl, hb9⟩
              rw [HNr.out.1, HNr.out.2]
              have hb10 := hb8.trans (hb9.mono (by have := hb8.size; omega))
              clear hb9 hb8 s0 s1
              go_wp2_with fail
              go_ret
              exact ⟨rfl, by first | exact hb10 | (rw [hB]; exact hb10)⟩
          · have hHas := has_gr v1 (refR (cov gW gH gS wd l) gW.toNat gH.toNat) cx cy wm HV1m.out
            obtain ⟨hh, hhe⟩ : ∃ hh, hasL (refR (cov gW gH gS wd l) gW.toNat gH.toNat) cx cy = hh := ⟨_, rfl⟩
            rw [hhe] at hHas
            have HHe := Lib.hid hhe
            have HHas := Lib.hid hHas
            clear hhe hHas
            obtain ⟨c0, c1, c2, c3, d0, d1, e0, e1, -, -⟩ := (id F6 : RcF w wm B gW gH gS vL cx cy x1 x2)
            go_wp2_with fail
            refine HHas.out.mono ?_
            rintro e wh ⟨rfl, hb⟩
            have F7 := F6.below hb F6.hz
            clear hb F6 c0 c1 c2 c3 d0 d1 e0 e1
            cases hh with
            | false =>
              go_wp2_with fail
              go_ret
              exact ⟨rfl, by first | exact F7.hb | (rw [hB]; exact F7.hb)⟩
            | true =>
              have hcov : cov gW gH gS wd l cx cy = true := ((hasL_refR _ _ _ _ _).1 HHe.out).2.2
              have hin := reach_in HSea.out HTr.out hcov
              have hS := HSea.out.S
              have hW := HSea.out.W
              have hH := HSea.out.H
              have hX := HX.out
              obtain ⟨T1, hT1⟩ : ∃ R, x1.tmod gS = R := ⟨_, rfl⟩
              obtain ⟨T2, hT2⟩ : ∃ R, x2.tmod gS = R := ⟨_, rfl⟩
              have t1 := tmod_in (t := x1) (n := gS) hX.1.1 hS.1
              have t2 := tmod_in (t := x2) (n := gS) hX.2.1 hS.1
              rw [hT1] at t1
              rw [hT2] at t2
              have m1 : 0 ≤ cx * gS ∧ cx * gS ≤ 12800000 := by
                have a1 := Int.mul_nonneg hin.1.1 (show 0 ≤ gS by omega)
                have a2 := Int.mul_le_mul (show cx ≤ 256 by omega) hS.2 (by omega) (by omega)
                omega
              have m2 : 0 ≤ cy * gS ∧ cy * gS ≤ 12800000 := by
                have a1 := Int.mul_nonneg hin.2.1 (show 0 ≤ gS by omega)
                have a2 := Int.mul_le_mul (show cy ≤ 256 by omega) hS.2 (by omega) (by omega)
                omega
              have hNr := reach_near HSea.out HTr.out hcov t1 t2
              obtain ⟨P1, hP1⟩ : ∃ R, cx * gS = R := ⟨_, rfl⟩
              obtain ⟨P2, hP2⟩ : ∃ R, cy * gS = R := ⟨_, rfl⟩
              rw [hP1, hP2] at hNr
              rw [hP1] at m1
              rw [hP2] at m2
              have HNr := Lib.hid hNr
              have e1' : IntKind.i64.wrap P1 = P1 := wrapK _ (by omega) (by omega)
              have e2' : IntKind.i64.wrap P2 = P2 := wrapK _ (by omega) (by omega)
              have e3' : IntKind.i64.wrap x1 = x1 := wrapK _ (by omega) (by omega)
              have e4' : IntKind.i64.wrap x2 = x2 := wrapK _ (by omega) (by omega)
              have e5' : IntKind.i64.wrap T1 = T1 := wrapK _ (by omega) (by omega)
              have e6' : IntKind.i64.wrap T2 = T2 := wrapK _ (by omega) (by omega)
              have e7' : IntKind.i64.wrap (P1 + T1) = P1 + T1 := wrapK _ (by omega) (by omega)
              have e8' : IntKind.i64.wrap (P2 + T2) = P2 + T2 := wrapK _ (by omega) (by omega)
              have hn0 : ¬ gS = 0 := by omega
              have hn0' : (gS == 0) = false := by simp; omega
              clear hcov hin hS hW hH hX t1 t2 m1 m2 hNr
              obtain ⟨c0, c1, c2, c3, d0, d1, e0, e1, -, -⟩ := (id F7 : RcF w wh B gW gH gS vL cx cy x1 x2)
              go_wp2_with fail
              have hzh : B + 1 + 1 < wh.heap.size := F7.hz
              have hzh1 : B + 1 < wh.heap.size := by omega
              have hzh0 : B < wh.heap.size := by omega
              go_region_held3 (fun W' => (W'.cell? ⟨B, 2, none⟩ = some (.int .i64 gS) ∧ W'.cell? ⟨B + 1, 0, none⟩ = some (.int .i64 cx) ∧ W'.cell? ⟨B + 1, 1, none⟩ = some (.int .i64 cy) ∧ W'.cell? ⟨B + 1 + 1, 0, none⟩ = some (.int .u32 x1) ∧ W'.cell? ⟨B + 1 + 1, 1, none⟩ = some (.int .u32 x2))) (first | exact ⟨c2, d0, d1, e0, e1⟩ | go_keep) (fail)
              rename_i hHeld
              clear hHeld c0 c1 c2 c3 d0 d1 e0 e1
              have s0 : (wh.alloc (.cells #[.int .i64 (P1 + T1), .int .i64 (P2 + T2)] 26)).drew.cell? ⟨wh.heap.size, 0, none⟩ = some (.int .i64 (P1 + T1)) := by simp [go_sem]
              have s1 : (wh.alloc (.cells #[.int .i64 (P1 + T1), .int .i64 (P2 + T2)] 26)).drew.cell? ⟨wh.heap.size, 1, none⟩ = some (.int .i64 (P2 + T2)) := by simp [go_sem]
              have hb8 : Below B w (wh.alloc (.cells #[.int .i64 (P1 + T1), .int .i64 (P2 + T2)] 26)).drew := belowDrew (F7.hb.alloc (by omega) _)
              generalize (wh.alloc (.cells #[.int .i64 (P1 + T1), .int .i64 (P2 + T2)] 26)).drew = w8 at s0 s1 hb8 ⊢
              go_wp2_with fail
              refine (near_all (.slice A n c) l (P1 + T1) (P2 + T2) wd w8 (HV.out.below (by rw [hB]; exact hb8))).mono ?_
              rintro e w9 ⟨rfl, hb9⟩
              rw [HNr.out.1, HNr.out.2]
              have hb10 := hb8.trans (hb9.mono (by have := hb8.size; omega))
              clear hb9 hb8 s0 s1
              go_wp2_with fail
              go_ret
              exact ⟨rfl, by first | exact hb10 | (rw [hB]; exact hb10)⟩
        · have hHas := has_gr v1 (refR (cov gW gH gS wd l) gW.toNat gH.toNat) cx cy wm HV1m.out
          obtain ⟨hh, hhe⟩ : ∃ hh, hasL (refR (cov gW gH gS wd l) gW.toNat gH.toNat) cx cy = hh := ⟨_, rfl⟩
          rw [hhe] at hHas
          have HHe := Lib.hid hhe
          have HHas := Lib.hid hHas
          clear hhe hHas
          obtain ⟨c0, c1, c2, c3, d0, d1, e0, e1, -, -⟩ := (id F6 : RcF w wm B gW gH gS vL cx cy x1 x2)
          go_wp2_with fail
          refine HHas.out.mono ?_
          rintro e wh ⟨rfl, hb⟩
          have F7 := F6.below hb F6.hz
          clear hb F6 c0 c1 c2 c3 d0 d1 e0 e1
          cases hh with
          | false =>
            go_wp2_with fail
            go_ret
            exact ⟨rfl, by first | exact F7.hb | (rw [hB]; exact F7.hb)⟩
          | true =>
            have hcov : cov gW gH gS wd l cx cy = true := ((hasL_refR _ _ _ _ _).1 HHe.out).2.2
            have hin := reach_in HSea.out HTr.out hcov
            have hS := HSea.out.S
            have hW := HSea.out.W
            have hH := HSea.out.H
            have hX := HX.out
            obtain ⟨T1, hT1⟩ : ∃ R, x1.tmod gS = R := ⟨_, rfl⟩
            obtain ⟨T2, hT2⟩ : ∃ R, x2.tmod gS = R := ⟨_, rfl⟩
            have t1 := tmod_in (t := x1) (n := gS) hX.1.1 hS.1
            have t2 := tmod_in (t := x2) (n := gS) hX.2.1 hS.1
            rw [hT1] at t1
            rw [hT2] at t2
            have m1 : 0 ≤ cx * gS ∧ cx * gS ≤ 12800000 := by
              have a1 := Int.mul_nonneg hin.1.1 (show 0 ≤ gS by omega)
              have a2 := Int.mul_le_mul (show cx ≤ 256 by omega) hS.2 (by omega) (by omega)
              omega
            have m2 : 0 ≤ cy * gS ∧ cy * gS ≤ 12800000 := by
              have a1 := Int.mul_nonneg hin.2.1 (show 0 ≤ gS by omega)
              have a2 := Int.mul_le_mul (show cy ≤ 256 by omega) hS.2 (by omega) (by omega)
              omega
            have hNr := reach_near HSea.out HTr.out hcov t1 t2
            obtain ⟨P1, hP1⟩ : ∃ R, cx * gS = R := ⟨_, rfl⟩
            obtain ⟨P2, hP2⟩ : ∃ R, cy * gS = R := ⟨_, rfl⟩
            rw [hP1, hP2] at hNr
            rw [hP1] at m1
            rw [hP2] at m2
            have HNr := Lib.hid hNr
            have e1' : IntKind.i64.wrap P1 = P1 := wrapK _ (by omega) (by omega)
            have e2' : IntKind.i64.wrap P2 = P2 := wrapK _ (by omega) (by omega)
            have e3' : IntKind.i64.wrap x1 = x1 := wrapK _ (by omega) (by omega)
            have e4' : IntKind.i64.wrap x2 = x2 := wrapK _ (by omega) (by omega)
            have e5' : IntKind.i64.wrap T1 = T1 := wrapK _ (by omega) (by omega)
            have e6' : IntKind.i64.wrap T2 = T2 := wrapK _ (by omega) (by omega)
            have e7' : IntKind.i64.wrap (P1 + T1) = P1 + T1 := wrapK _ (by omega) (by omega)
            have e8' : IntKind.i64.wrap (P2 + T2) = P2 + T2 := wrapK _ (by omega) (by omega)
            have hn0 : ¬ gS = 0 := by omega
            have hn0' : (gS == 0) = false := by simp; omega
            clear hcov hin hS hW hH hX t1 t2 m1 m2 hNr
            obtain ⟨c0, c1, c2, c3, d0, d1, e0, e1, -, -⟩ := (id F7 : RcF w wh B gW gH gS vL cx cy x1 x2)
            go_wp2_with fail
            have hzh : B + 1 + 1 < wh.heap.size := F7.hz
            have hzh1 : B + 1 < wh.heap.size := by omega
            have hzh0 : B < wh.heap.size := by omega
            go_region_held3 (fun W' => (W'.cell? ⟨B, 2, none⟩ = some (.int .i64 gS) ∧ W'.cell? ⟨B + 1, 0, none⟩ = some (.int .i64 cx) ∧ W'.cell? ⟨B + 1, 1, none⟩ = some (.int .i64 cy) ∧ W'.cell? ⟨B + 1 + 1, 0, none⟩ = some (.int .u32 x1) ∧ W'.cell? ⟨B + 1 + 1, 1, none⟩ = some (.int .u32 x2))) (first | exact ⟨c2, d0, d1, e0, e1⟩ | go_keep) (fail)
            rename_i hHeld
            clear hHeld c0 c1 c2 c3 d0 d1 e0 e1
            have s0 : (wh.alloc (.cells #[.int .i64 (P1 + T1), .int .i64 (P2 + T2)] 26)).drew.cell? ⟨wh.heap.size, 0, none⟩ = some (.int .i64 (P1 + T1)) := by simp [go_sem]
            have s1 : (wh.alloc (.cells #[.int .i64 (P1 + T1), .int .i64 (P2 + T2)] 26)).drew.cell? ⟨wh.heap.size, 1, none⟩ = some (.int .i64 (P2 + T2)) := by simp [go_sem]
            have hb8 : Below B w (wh.alloc (.cells #[.int .i64 (P1 + T1), .int .i64 (P2 + T2)] 26)).drew := belowDrew (F7.hb.alloc (by omega) _)
            generalize (wh.alloc (.cells #[.int .i64 (P1 + T1), .int .i64 (P2 + T2)] 26)).drew = w8 at s0 s1 hb8 ⊢
            go_wp2_with fail
            refine (near_all (.slice A n c) l (P1 + T1) (P2 + T2) wd w8 (HV.out.below (by rw [hB]; exact hb8))).mono ?_
            rintro e w9 ⟨rfl, hb9⟩
            rw [HNr.out.1, HNr.out.2]
            have hb10 := hb8.trans (hb9.mono (by have := hb8.size; omega))
            clear hb9 hb8 s0 s1
            go_wp2_with fail
            go_ret
            exact ⟨rfl, by first | exact hb10 | (rw [hB]; exact hb10)⟩
end Go.Proofs.Ytnbdnnbeiohmgaa
