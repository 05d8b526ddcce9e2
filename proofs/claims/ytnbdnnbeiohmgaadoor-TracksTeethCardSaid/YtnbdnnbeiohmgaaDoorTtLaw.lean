/- TracksTeeth: plain facts of the comb; the walk of the law. -/
import Derived.Test.YtnbdnnbeiohmgaaDoorOrWalk
import Derived.Test.YtnbdnnbeiohmgaaDoorTkB
namespace Go.Proofs.YtnbdnnbeiohmgaaDoor
open Go.RowKit

theorem rowEv_head (y : Nat) : ∀ n, ∃ l, rowEv y (n + 1) = (0, (y : Int)) :: l
  | 0 => ⟨[], by simp [rowEv]⟩
  | n + 1 => by
    obtain ⟨l, h⟩ := rowEv_head y n
    exact ⟨l ++ [(((n + 1 : Nat) : Int), (y : Int))], by rw [rowEv, h]; rfl⟩
theorem everyL_head {W : Nat} (hW : 1 ≤ W) : ∀ n, ∃ l, everyL W (n + 1) = (0, 0) :: l
  | 0 => by
    obtain ⟨m, rfl⟩ : ∃ m, W = m + 1 := ⟨W - 1, by omega⟩
    obtain ⟨l, h⟩ := rowEv_head 0 m
    exact ⟨l, by simpa [everyL] using h⟩
  | n + 1 => by
    obtain ⟨l, h⟩ := everyL_head hW n
    exact ⟨l ++ rowEv (n + 1) W, by rw [everyL, h]; rfl⟩
theorem cellsS_head {S : Int → Int → Bool} (h : S 0 0 = true) {W : Nat} (hW : 1 ≤ W) (n : Nat) : ∃ l, cellsS S W (n + 1) = (0, 0) :: l := by
  obtain ⟨l, e⟩ := everyL_head hW n
  exact ⟨l.filter fun c => S c.1 c.2, by
    unfold cellsS
    rw [e, List.filter_cons]
    simp [h]⟩
theorem cellsS_head2 {S : Int → Int → Bool} (h : S 0 0 = true) : ∃ l, cellsS S (256 : Int).toNat (6 : Int).toNat = (0, 0) :: l := by
  have e1 : (256 : Int).toNat = 256 := rfl
  have e2 : (6 : Int).toNat = 5 + 1 := rfl
  rw [e1, e2]
  exact cellsS_head h (by omega) 5
theorem comb_proper (w t n h : Nat) (hw : 1 ≤ w ∧ w ≤ 256) (ht : 2 ≤ t) (hn : ∀ j, j < n → j * t < w) (h4 : h ≤ 4) : Proper 256 6 (combL w t n h) := by
  refine ⟨(good_comb w t n hw ht hn h h4).1, fun r hr => ?_⟩
  simp only [combL, List.mem_cons, List.mem_flatMap, List.mem_range, teeth, List.mem_map] at hr
  rcases hr with rfl | ⟨y, hy, j, hj, rfl⟩
  · dsimp only; omega
  · dsimp only; omega
/-- the result of the walk round a comb -/
theorem comb_res (w t n h : Nat) (hw : 1 ≤ w ∧ w ≤ 256) (hn : ∀ j, j < n → j * t < w) (h4 : h ≤ 4) : ∃ k v, outO (inC (cellsL (combL w t n h))) 1 0 0 k 0 0 0 [(0 * 1, 0 * 1)] = some v :=
  outO_some _ 1 0 0 256 6 fun p q e => by
    rcases mem_comb.1 (by simpa [inC] using e) with ⟨h1, h2, h3⟩ | ⟨y, j, h1, h2, h3, rfl, rfl⟩
    · omega
    · have := hn j h3
      omega

theorem samet (a b : Value) (l : List (Int × Int)) (E : Int) (w : World) (ha : Spots w a l) (hb : Spots w b l) :
    Calls Tryd.prog 13 #[a, .int .i64 E, b, .int .i64 E] w fun e w' => e = .returned (.bool true) ∧ Below w.heap.size w w' := by
  have HS := Lib.hid (same_08 a b l w ha hb)
  have hE : (E == E) = true := by simp
  clear ha hb
  go_enter Tryd.func13, Tryd.ntmps13
  go_wp2_with fail
  refine HS.out.mono ?_
  rintro e w1 ⟨rfl, hb1⟩
  go_wp2_with fail
  go_ret
  exact ⟨rfl, hb1⟩

set_option maxRecDepth 100000 in
set_option maxHeartbeats 8000000 in
theorem teeth_tk (wide step high : Nat) (w : World) (h1 : wide < 256) (h2 : step < 256) (h3 : high < 256) (hs : SidesO w) (hc : Corners w) :
    Calls Tryd.prog 4 #[.int .u8 wide, .int .u8 step, .int .u8 high] w fun e w' => e = .returned (.bool true) ∧ Below w.heap.size w w' := by
  obtain ⟨m, hm, hm1⟩ : ∃ m : Nat, 1 + wide = m ∧ 1 ≤ m ∧ m ≤ 256 := ⟨_, rfl, by omega⟩
  obtain ⟨t, ht, ht1⟩ : ∃ t : Nat, 2 + step % 4 = t ∧ 2 ≤ t ∧ t ≤ 5 := ⟨_, rfl, by omega⟩
  obtain ⟨hh, hhe, hh1⟩ : ∃ hh : Nat, 1 + high % 4 = hh ∧ 1 ≤ hh ∧ hh ≤ 4 := ⟨_, rfl, by omega⟩
  obtain ⟨n, hn⟩ : ∃ n : Nat, (m + t - 1) / t = n := ⟨_, rfl⟩
  have hnt : ∀ j, j < n ↔ j * t < m := fun j => by
    rw [← hn, Nat.lt_div_iff_mul_lt (by omega)]
    omega
  have hn2 : n ≤ 128 := by
    rw [← hn]
    have h' : (m + t - 1) / t * t ≤ m + t - 1 := Nat.div_mul_le_self _ _
    have : (m + t - 1) / t * 2 ≤ (m + t - 1) / t * t := Nat.mul_le_mul_left _ (by omega)
    rcases Nat.lt_or_ge ((m + t - 1) / t) 129 with h9 | h9
    · omega
    · have : 129 * t ≤ (m + t - 1) / t * t := Nat.mul_le_mul_right _ h9
      omega
  have ew : (1 : Int) + (wide : Int) = (m : Int) := by omega
  have es : (step : Int) % 4 = (t : Int) - 2 := by omega
  have eh : (high : Int) % 4 = (hh : Int) - 1 := by omega
  have es' : (step : Int).tmod 4 = (t : Int) - 2 := by rw [Int.tmod_eq_emod_of_nonneg (by omega)]; exact es
  have eh' : (high : Int).tmod 4 = (hh : Int) - 1 := by rw [Int.tmod_eq_emod_of_nonneg (by omega)]; exact eh
  have HNt := Lib.hid hnt
  have HS := Lib.hid hs
  have HC := Lib.hid hc
  clear hm ht hhe hn hnt hs hc
  go_enter Tryd.func4, Tryd.ntmps4
  go_upto_region 3 with fail
  obtain ⟨B, hB⟩ : ∃ B, w.heap.size = B := ⟨_, rfl⟩
  obtain ⟨w1, hw1⟩ : ∃ w', w.alloc (.cells #[.int .i64 256, .int .i64 6, .int .i64 1, .slice none 0 0] 37) = w' := ⟨_, rfl⟩
  have b1 : Below B w w1 := by rw [← hw1, ← hB]; exact (Below.refl _ _).alloc (Nat.le_refl _) _
  have e1 : w1.heap[B]? = some (.cells #[.int .i64 256, .int .i64 6, .int .i64 1, .slice none 0 0] 37 (0, 0)) := by rw [← hw1, ← hB]; exact heap_alloc_new w _
  have z1 : w1.heap.size = B + 1 := by rw [← hw1, ← hB, size_allocO]
  rw [hw1, hB]
  have own1 : (w1.alloc (.cells #[.int .i64 0, .int .i64 0, .int .i64 (m : Int)] 39)).ownsRow (B + 1) 39 3 (.slice (some ⟨B + 1, 0, none⟩) 1 1) 1 (flatE encR [(0, 0, (m : Int))]) := by
    have := World.ownsRow_lit (base := B + 1) (e := 39) (size := 3) w1 #[.int .i64 0, .int .i64 0, .int .i64 (m : Int)] 1 (by omega) (by simp [maxLen]) rfl
    rw [z1] at this
    exact this
  have x1 : Below (B + 1) w1 (w1.alloc (.cells #[.int .i64 0, .int .i64 0, .int .i64 (m : Int)] 39)) := by rw [← z1]; exact (Below.refl _ _).alloc (Nat.le_refl _) _
  have HZ := Lib.hid z1
  have HO1 := Lib.hid own1
  have HX1 := Lib.hid x1
  have hzB : B < w1.heap.size := by omega
  clear hw1 z1 own1 x1
  go_wp2_with fail
  have HZz := HZ.out
  rw [HZz]
  clear HZz
  have own0 : (w1.alloc (.cells #[.int .i64 0, .int .i64 0, .int .i64 (m : Int)] 39)).ownsRow (B + 1) 39 3 (.slice (some ⟨B + 1, 0, none⟩) 1 1) (combL m t n 0).length (flatE encR (combL m t n 0)) := by
    have e : combL m t n 0 = [(0, 0, (m : Int))] := by simp [combL]
    rw [e]
    exact HO1.out
  have HO0 := Lib.hid own0
  clear own0
  go_loopw [9, 10] (fun v i wr => ∃ j y : Nat, j + 1 = y ∧ j ≤ hh ∧ i = .int .i64 y ∧ wr.ownsRow (B + 1) 39 3 v (combL m t n j).length (flatE encR (combL m t n j)) ∧ Below (B + 1) w1 wr) (fun _ i _ => hh + 1 - (intOf i).toNat)
  case atStart => exact ⟨0, 1, rfl, Nat.zero_le _, rfl, HO0.out, HX1.out⟩
  case round =>
    obtain ⟨j, y, hjy, hj, rfl, hown, hx⟩ := hrel
    by_cases hlt : j < hh
    · obtain ⟨L, hL⟩ : ∃ L, combL m t n j = L := ⟨_, rfl⟩
      have hLl : L.length ≤ 1 + 4 * 128 := by
        rw [← hL, combL_len]
        have := Nat.mul_le_mul (show j ≤ 4 by omega) hn2
        omega
      rw [hL] at hown
      have HL := Lib.hid hL
      have HJ := Lib.hid hjy
      have hyh : (y : Int) ≤ 1 + ((hh : Int) - 1) := by omega
      have hy4 : y ≤ 4 := by omega
      clear hL hjy
      go_wp2_with fail
      go_loopw [9, 11] (fun v i wq => ∃ i' x : Nat, i' * t = x ∧ i' ≤ n ∧ x ≤ 300 ∧ i = .int .i64 x ∧ wq.ownsRow (B + 1) 39 3 v (L ++ teeth y t i').length (flatE encR (L ++ teeth y t i')) ∧ Below (B + 1) w1 wq) (fun _ i _ => 400 - (intOf i).toNat)
      case atStart => exact ⟨0, 0, by simp, Nat.zero_le _, by omega, rfl, by simpa [teeth] using hown, hx⟩
      case round =>
        obtain ⟨i', x, hix, hi', hx3, rfl, hown, hx⟩ := hrel
        by_cases hxm : x < m
        · have hin : i' < n := (HNt.out i').2 (by rw [hix]; exact hxm)
          have hxmI : (x : Int) < (m : Int) := by omega
          obtain ⟨M, hM⟩ : ∃ M, L ++ teeth y t i' = M := ⟨_, rfl⟩
          have hMl : M.length ≤ 1 + 4 * 128 + 128 := by
            rw [← hM, List.length_append]
            simp [teeth]
            omega
          rw [hM] at hown
          have HM := Lib.hid hM
          have HX := Lib.hid hix
          obtain ⟨i0, hi, hz0, hz1, hz2⟩ := info_parts infoRun
          have hown4 := hown.alloc (.cells #[.int .i64 (y : Int), .int .i64 (x : Int), .int .i64 ((x : Int) + 1)] 39)
          have hxs := hx.size
          have hBq : B + 1 ≤ wr.heap.size := by have := HZ.out; omega
          have HOb := Lib.hid (fun g (h : u9.ownBlock = some g) => ownBlock_lt hown h)
          have HXx := Lib.hid hx
          clear hM hix hx hown
          go_wp2_with (at_builtin; go_loud (refine wpList_append_lies _ rfl _ _ _ rfl (B + 1) 39 i0 _ 3 24 Tryd.underlying35 hi hz0 hz1 hz2 rfl (by omega) u9 M.length (flatE encR M) rfl hown4 ⟨wr.heap.size, 0, none⟩ 1 1 [.int .i64 (y : Int), .int .i64 (x : Int), .int .i64 ((x : Int) + 1)] rfl rfl (newsLit (cs := #[.int .i64 (y : Int), .int .i64 (x : Int), .int .i64 ((x : Int) + 1)]) (by simp)) (by simp [Value.oneCell']) (by omega) (by unfold maxLen; omega) (by omega) (by simp; omega) (wr.heap.size + 1) (by simp) ?_); intro gg cap5 w5 hown5 hgrow hat hlt5)
          have hb5 : Below (B + 1) w1 w5 := (HXx.out.alloc hBq _).grown hgrow (by simp; omega) (fun q hq => (HOb.out q hq).1)
          have hown6 : w5.ownsRow (B + 1) 39 3 (.slice (some ⟨gg, 0, none⟩) (M.length + 1) cap5) (L ++ teeth y t (i' + 1)).length (flatE encR (L ++ teeth y t (i' + 1))) := by
            rw [teeth_succ, ← List.append_assoc, HM.out, flatE_append, List.length_append, HX.out]
            have e : flatE encR [((y : Int), (x : Int), ((x + 1 : Nat) : Int))] = [.int .i64 (y : Int), .int .i64 (x : Int), .int .i64 ((x : Int) + 1)] := by simp [flatE, encR]
            rw [e]
            exact hown5
          have e2 : (i' + 1) * t = x + t := by rw [Nat.succ_mul, HX.out]
          go_roundw
          case rel => exact ⟨i' + 1, x + t, e2, by omega, by omega, by congr 1; push_cast; omega, hown6, hb5⟩
          case measure => simp [intOf]; omega
        · have hin : i' = n := by
            have h : ¬ i' < n := fun h => hxm (by rw [← hix]; exact (HNt.out i').1 h)
            omega
          have hxm' : ¬ (x : Int) < (m : Int) := by omega
          have hown7 : wr.ownsRow (B + 1) 39 3 u9 (combL m t n (j + 1)).length (flatE encR (combL m t n (j + 1))) := by
            rw [combL_succ, HL.out, HJ.out, ← hin]
            exact hown
          have HO7 := Lib.hid hown7
          have HXx := Lib.hid hx
          clear hown hown7 hx
          go_wp2_with fail
          go_roundw
          case rel => exact ⟨j + 1, y + 1, by have := HJ.out; omega, by omega, by go_num, HO7.out, HXx.out⟩
          case measure => have := HJ.out; simp [intOf]; omega
    · obtain rfl : j = hh := by omega
      have hyh : ¬ (y : Int) ≤ 1 + ((j : Int) - 1) := by omega
      have hn' : ∀ i, i < n → i * t < m := fun i hi => (HNt.out i).1 hi
      obtain ⟨k, res, hres⟩ := comb_res m t n j hm1 hn' (by omega)
      obtain ⟨rest, hrest⟩ : ∃ r, combL m t n j = (0, 0, (m : Int)) :: r := ⟨_, rfl⟩
      have hcr := comb_right m t n j hm1 ht1.1 hn' hn2 (by omega)
      have hcp := comb_proper m t n j hm1 ht1.1 hn' (by omega)
      have hcl : (cellsL (combL m t n j)).length ≤ 8192 := by
        rw [comb_cells]
        have := Nat.mul_le_mul (show j ≤ 4 by omega) hn2
        omega
      have hlen : (combL m t n j).length ≤ 8192 := by
        rw [combL_len]
        have := Nat.mul_le_mul (show j ≤ 4 by omega) hn2
        omega
      have hcone := comb_one m t n j hm1.1 hn'
      have hcc := comb_conn m t n j hm1.1 hn'
      obtain ⟨l2, hl2⟩ := cellsS_head2 (S := hasL (combL m t n j)) (by rw [has_inC]; unfold inC; exact decide_eq_true (mem_comb.2 (.inl ⟨rfl, by omega, by omega⟩)))
      have hR := Lst_of_own encR_len hown rfl
      have hok : checkRs 256 6 1 [] [combL m t n j] = true := by
        simp only [checkRs, List.all_cons, List.all_nil, Bool.and_true, hcr]
        decide
      rw [← has_inC] at hcc
      rw [hrest] at hres hcp hcl hlen hcone hcc hl2 hR hok
      have hxs := hx.size
      have eg := (hx.block B (by omega)).trans e1
      have g0 : wr.cell? ⟨B, 0, none⟩ = some (.int .i64 256) := by simp [World.cell?, eg]
      have g1 : wr.cell? ⟨B, 1, none⟩ = some (.int .i64 6) := by simp [World.cell?, eg]
      have g2 : wr.cell? ⟨B, 2, none⟩ = some (.int .i64 1) := by simp [World.cell?, eg]
      have g3 : wr.cell? ⟨B, 3, none⟩ = some (.slice none 0 0) := by simp [World.cell?, eg]
      have bw : Below B w wr := b1.trans (hx.mono (by omega))
      have bw' : Below w.heap.size w wr := by rw [hB]; exact bw
      have HA := Lib.hid (outline_tk 256 6 1 (.slice none 0 0) u9 [] 0 0 m rest wr (HS.out.below bw') (HC.out.below bw') (Lst.nil _) hR hok hcl (by decide) (by omega) hcone k res hres)
      have HBq := Lib.hid (fun w' (hb : Below wr.heap.size wr w') => outline_ref 256 6 1 (.slice none 0 0) u9 [] 0 0 m rest w' (by omega) (by omega) (by omega) (Lst.nil _) ⟨rfl, fun r hr => by cases hr⟩ (by simp) (hR.below hb) hcp hlen (by decide) (by omega) l2 hl2 hcc k res hres)
      have hBwr : B < wr.heap.size := by omega
      clear hres hcr hcp hcl hlen hcone hcc hl2 hR hok hrest hown hx eg bw' e1
      go_wp2_with fail
      refine HA.out.mono ?_
      rintro e w3 ⟨⟨v3, rfl, hv3⟩, hb3⟩
      have g0 := (hb3.cell (p := ⟨B, 0, none⟩) hBwr).trans g0
      have g1 := (hb3.cell (p := ⟨B, 1, none⟩) hBwr).trans g1
      have g2 := (hb3.cell (p := ⟨B, 2, none⟩) hBwr).trans g2
      have g3 := (hb3.cell (p := ⟨B, 3, none⟩) hBwr).trans g3
      have HC2 := Lib.hid (HBq.out w3 hb3)
      have s3 := hb3.size
      have b3 := bw.trans (hb3.mono (by omega))
      have HV3 := Lib.hid hv3
      clear hv3 hb3 HA HBq bw
      go_wp2_with fail
      refine HC2.out.mono ?_
      rintro e w4 ⟨⟨v4, rfl, hv4⟩, hb4⟩
      have HSm := Lib.hid (samet v3 v4 (res.getD []) (endO res) w4 (HV3.out.below hb4) hv4)
      have b4 := b3.trans (hb4.mono (by omega))
      have s4 := hb4.size
      clear hv4 hb4 HC2 b3 g0 g1 g2 g3
      go_wp2_with fail
      refine HSm.out.mono ?_
      rintro e w5 ⟨rfl, hb5⟩
      have b5 := b4.trans (hb5.mono (by omega))
      have s5 := hb5.size
      clear hb5 HSm b4
      go_wp2_with fail
      refine (alive_tk _).mono ?_
      rintro e w6 ⟨rfl, hb6⟩
      have b6 := b5.trans (hb6.mono (by omega))
      clear hb6 b5
      go_wp2_with fail
      go_ret
      exact ⟨rfl, by rw [hB]; exact b6⟩
end Go.Proofs.YtnbdnnbeiohmgaaDoor
