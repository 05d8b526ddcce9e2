/- share: slices.MinFunc, least. -/
import Derived.Test.YtngigogaiheckaaShSee
import Derived.Test.YtngigogaiheckaaShLeast
namespace Go.Proofs.Ytngigogaiheckaa
open Go.RowKit Go.Lib Go.Maps

theorem boxSet {W : World} {X : Nat} {x : Sd} (h : BoxS W X x) : ∀ i, W.frozen? ⟨X, i, none⟩ = false := fun i => zfro h i
theorem best_take {l : List Sd} {k : Nat} {x m : Sd} (hx : l[k]? = some x) (h : Best (l.take k) m) : Best (l.take (k + 1)) (if cmpSd x m < 0 then x else m) := by
  rw [take_succ' hx]
  split
  · rename_i hc
    exact best_new h hc
  · rename_i hc
    exact best_keep h hc
set_option maxRecDepth 100000 in
set_option maxHeartbeats 4000000 in
theorem minFunc_sh (v : Value) (l : List Sd) (hok : ∀ s, s ∈ l → SdOK s) (h0 : l ≠ []) (X : Nat) (w : World) (hv : Lst 7 encSd w v l) (hlen : l.length ≤ 1000000)
    (hcmp : ∀ W a b, Below w.heap.size w W → SdOK a → SdOK b → Calls Try.prog 70 #[valSd a, valSd b, .pointer (some ⟨X, 0, none⟩)] W fun e w' => e = .returned (.int .i64 (cmpSd a b)) ∧ Below W.heap.size W w') :
    Calls Try.prog 69 #[v, .func (.func 70) #[] #[.pointer (some ⟨X, 0, none⟩)]] w fun e w' => ∃ m, e = .returned (valSd m) ∧ Best l m ∧ Below w.heap.size w w' := by
  obtain ⟨A, c, rfl, h1, h2, h3⟩ := id hv
  have hpos : 0 < l.length := List.length_pos_iff.2 h0
  obtain ⟨b, off, rfl, hb, hcell⟩ := h3 hpos
  obtain ⟨s0, hs0⟩ : ∃ s, l[0]? = some s := ⟨_, List.getElem?_eq_getElem hpos⟩
  have hbest0 : Best (l.take 1) s0 := by
    rw [take_succ' hs0]
    exact best_one s0
  have HC := Lib.hid hcmp
  have HL := Lib.hid hcell
  have HK := Lib.hid hok
  have x0 := hcell 0 0 _ _ hs0 rfl
  have x1 := hcell 0 1 _ _ hs0 rfl
  have x2 := hcell 0 2 _ _ hs0 rfl
  have x3 := hcell 0 3 _ _ hs0 rfl
  have x4 := hcell 0 4 _ _ hs0 rfl
  have x5 := hcell 0 5 _ _ hs0 rfl
  have x6 := hcell 0 6 _ _ hs0 rfl
  clear hcmp hcell hok hv h3 h0 h1 h2
  simp only [Nat.zero_mul, Nat.add_zero] at x0 x1 x2 x3 x4 x5 x6
  obtain ⟨n, hn⟩ : ∃ n, l.length = n := ⟨_, rfl⟩
  have HN := Lib.hid hn
  rw [hn] at hpos hlen ⊢
  clear hn
  have hn1 : ((n : Int) < 1) = False := by simp only [eq_iff_iff, iff_false]; omega
  have hn0 : (0 : Int) < n := by omega
  go_enter Try.func69, Try.ntmps69
  go_upto_region 4 with fail
  have hz0 := heap_alloc_new w (.cells #[.int .i64 0, .int .i64 0, .string ⟨#[]⟩, .string ⟨#[]⟩, .int .i64 0, .int .i64 0, .int .i64 0] 38)
  obtain ⟨w1, hw1⟩ : ∃ W, w.alloc (.cells #[.int .i64 0, .int .i64 0, .string ⟨#[]⟩, .string ⟨#[]⟩, .int .i64 0, .int .i64 0, .int .i64 0] 38) = W := ⟨_, rfl⟩
  have hs1 : w1.heap.size = w.heap.size + 1 := by rw [← hw1]; simp
  have hb1 : Below w.heap.size w w1 := by rw [← hw1]; exact (Below.refl _ _).alloc (Nat.le_refl _) _
  rw [hw1] at hz0 ⊢
  have hm0 := heap_alloc_new w1 (.cells #[.int .i64 s0.c, .int .i64 s0.n, .string s0.key, .string s0.val, .int .i64 s0.time, .int .i64 s0.trust, .int .i64 s0.back] 38)
  obtain ⟨w2, hw2⟩ : ∃ W, w1.alloc (.cells #[.int .i64 s0.c, .int .i64 s0.n, .string s0.key, .string s0.val, .int .i64 s0.time, .int .i64 s0.trust, .int .i64 s0.back] 38) = W := ⟨_, rfl⟩
  have hs2 : w2.heap.size = w1.heap.size + 1 := by rw [← hw2]; simp
  have hb2 : Below w1.heap.size w1 w2 := by rw [← hw2]; exact (Below.refl _ _).alloc (Nat.le_refl _) _
  rw [hw2] at hm0 ⊢
  have hz0 := (hb2.block _ (by omega)).trans hz0
  have hb0 : Below w.heap.size w w2 := hb1.trans (hb2.mono (by omega))
  rw [hs1] at hm0
  have HC := Lib.hid (fun W a b (h : Below w.heap.size w W) ha hb => HC.out W a b h ha hb)
  obtain ⟨P0, hP0⟩ : ∃ P, w.heap.size = P := ⟨_, rfl⟩
  rw [hP0] at hz0 hm0 hs1 hb0 hb HC ⊢
  clear hw1 hw2 hb1 hb2 x0 x1 x2 x3 x4 x5 x6
  go_wp2_with fail
  go_loopw [6] (fun i wr => ∃ (k : Nat) (m : Sd), 1 ≤ k ∧ k ≤ n ∧ i = .int .i64 k ∧ BoxS wr (P0 + 1) m ∧ Best (l.take k) m ∧ BoxS wr P0 noSd ∧ Below P0 w wr) (fun i _ => n - (intOf i).toNat)
  case atStart => exact ⟨1, s0, by omega, by omega, rfl, hm0, hbest0, hz0, hb0⟩
  case round =>
    obtain ⟨k, m, hk1, hk, rfl, hbm, hbest, hbz, hbr⟩ := hrel
    obtain ⟨m0, m1, m2, m3, m4, m5, m6⟩ := hbm.cells
    have hl1 : P0 + 1 < wr.heap.size := (Array.getElem?_eq_some_iff.1 hbm).1
    by_cases hlt : k < n
    · obtain ⟨s, hs⟩ : ∃ s, l[k]? = some s := ⟨_, List.getElem?_eq_getElem (by rw [HN.out]; exact hlt)⟩
      have hbest' := best_take hs hbest
      have hsok := HK.out s (List.mem_of_getElem? hs)
      have hmok := HK.out m (List.mem_of_mem_take hbest.1)
      have y0 := (hbr.cell (p := ⟨b, off + k * 7 + 0, none⟩) hb).trans (HL.out k 0 _ _ hs rfl)
      have y1 := (hbr.cell (p := ⟨b, off + k * 7 + 1, none⟩) hb).trans (HL.out k 1 _ _ hs rfl)
      have y2 := (hbr.cell (p := ⟨b, off + k * 7 + 2, none⟩) hb).trans (HL.out k 2 _ _ hs rfl)
      have y3 := (hbr.cell (p := ⟨b, off + k * 7 + 3, none⟩) hb).trans (HL.out k 3 _ _ hs rfl)
      have y4 := (hbr.cell (p := ⟨b, off + k * 7 + 4, none⟩) hb).trans (HL.out k 4 _ _ hs rfl)
      have y5 := (hbr.cell (p := ⟨b, off + k * 7 + 5, none⟩) hb).trans (HL.out k 5 _ _ hs rfl)
      have y6 := (hbr.cell (p := ⟨b, off + k * 7 + 6, none⟩) hb).trans (HL.out k 6 _ _ hs rfl)
      simp only [Nat.add_zero] at y0
      have HCC : Hid (∀ W, Below wr.heap.size wr W → Calls Try.prog 70 #[valSd s, valSd m, .pointer (some ⟨X, 0, none⟩)] W fun e w' => e = .returned (.int .i64 (cmpSd s m)) ∧ Below wr.heap.size wr w') := Lib.hid fun W hW => (HC.out W s m (hbr.trans (hW.mono (by omega))) hsok hmok).mono fun e w' ⟨h1, h2⟩ => ⟨h1, hW.trans (h2.mono hW.size)⟩
      have HBE := Lib.hid hbest'
      obtain ⟨cm, hcm⟩ : ∃ c, cmpSd s m = c := ⟨_, rfl⟩
      rw [hcm] at HCC HBE
      clear hbest hbest' hsok hmok hcm
      obtain ⟨sc, sn, skey, sval, stime, strust, sback⟩ := s
      obtain ⟨mc, mn, mkey, mval, mtime, mtrust, mback⟩ := m
      dsimp only [valSd] at m0 m1 m2 m3 m4 m5 m6 y0 y1 y2 y3 y4 y5 y6 HCC
      have hkn : (k : Int) < n := by omega
      have hk0 : (0 : Int) ≤ k := by omega
      have hwk : IntKind.i64.wrap ((k : Int) + 1) = k + 1 := wrapK _ (by omega) (by omega)
      have HR := Lib.hid (Below.refl wr.heap.size wr)
      go_upto_region 7 with fail
      have hbl : b < wr.heap.size := by have := hbr.size; omega
      have HS : Hid (∀ W', Below wr.heap.size wr W' → (W'.cell? ⟨b, off + k * 7, none⟩ = some (.int .i64 sc) ∧ W'.cell? ⟨b, off + k * 7 + 1, none⟩ = some (.int .i64 sn) ∧ W'.cell? ⟨b, off + k * 7 + 2, none⟩ = some (.string skey) ∧ W'.cell? ⟨b, off + k * 7 + 3, none⟩ = some (.string sval) ∧ W'.cell? ⟨b, off + k * 7 + 4, none⟩ = some (.int .i64 stime) ∧ W'.cell? ⟨b, off + k * 7 + 5, none⟩ = some (.int .i64 strust) ∧ W'.cell? ⟨b, off + k * 7 + 6, none⟩ = some (.int .i64 sback) ∧ W'.cell? ⟨P0 + 1, 0, none⟩ = some (.int .i64 mc) ∧ W'.cell? ⟨P0 + 1, 1, none⟩ = some (.int .i64 mn) ∧ W'.cell? ⟨P0 + 1, 2, none⟩ = some (.string mkey) ∧ W'.cell? ⟨P0 + 1, 3, none⟩ = some (.string mval) ∧ W'.cell? ⟨P0 + 1, 4, none⟩ = some (.int .i64 mtime) ∧ W'.cell? ⟨P0 + 1, 5, none⟩ = some (.int .i64 mtrust) ∧ W'.cell? ⟨P0 + 1, 6, none⟩ = some (.int .i64 mback))) := Lib.hid fun W' hW => ⟨(hW.cell (p := ⟨b, off + k * 7, none⟩) hbl).trans y0, (hW.cell (p := ⟨b, off + k * 7 + 1, none⟩) hbl).trans y1, (hW.cell (p := ⟨b, off + k * 7 + 2, none⟩) hbl).trans y2, (hW.cell (p := ⟨b, off + k * 7 + 3, none⟩) hbl).trans y3, (hW.cell (p := ⟨b, off + k * 7 + 4, none⟩) hbl).trans y4, (hW.cell (p := ⟨b, off + k * 7 + 5, none⟩) hbl).trans y5, (hW.cell (p := ⟨b, off + k * 7 + 6, none⟩) hbl).trans y6, (hW.cell (p := ⟨P0 + 1, 0, none⟩) hl1).trans m0, (hW.cell (p := ⟨P0 + 1, 1, none⟩) hl1).trans m1, (hW.cell (p := ⟨P0 + 1, 2, none⟩) hl1).trans m2, (hW.cell (p := ⟨P0 + 1, 3, none⟩) hl1).trans m3, (hW.cell (p := ⟨P0 + 1, 4, none⟩) hl1).trans m4, (hW.cell (p := ⟨P0 + 1, 5, none⟩) hl1).trans m5, (hW.cell (p := ⟨P0 + 1, 6, none⟩) hl1).trans m6⟩
      have HR1 := Lib.hid (belowDrew HR.out)
      go_cut [26, 27] from 20 to 27 (fun c q wx => q = .bool (decide (cm < 0)) ∧ Below wr.heap.size wr wx)
      case first =>
        go_region_held3 (fun W' => W'.cell? ⟨b, off + k * 7, none⟩ = some (.int .i64 sc) ∧ W'.cell? ⟨b, off + k * 7 + 1, none⟩ = some (.int .i64 sn) ∧ W'.cell? ⟨b, off + k * 7 + 2, none⟩ = some (.string skey) ∧ W'.cell? ⟨b, off + k * 7 + 3, none⟩ = some (.string sval) ∧ W'.cell? ⟨b, off + k * 7 + 4, none⟩ = some (.int .i64 stime) ∧ W'.cell? ⟨b, off + k * 7 + 5, none⟩ = some (.int .i64 strust) ∧ W'.cell? ⟨b, off + k * 7 + 6, none⟩ = some (.int .i64 sback) ∧ W'.cell? ⟨P0 + 1, 0, none⟩ = some (.int .i64 mc) ∧ W'.cell? ⟨P0 + 1, 1, none⟩ = some (.int .i64 mn) ∧ W'.cell? ⟨P0 + 1, 2, none⟩ = some (.string mkey) ∧ W'.cell? ⟨P0 + 1, 3, none⟩ = some (.string mval) ∧ W'.cell? ⟨P0 + 1, 4, none⟩ = some (.int .i64 mtime) ∧ W'.cell? ⟨P0 + 1, 5, none⟩ = some (.int .i64 mtrust) ∧ W'.cell? ⟨P0 + 1, 6, none⟩ = some (.int .i64 mback))
          (first | with_reducible exact HS.out _ HR.out | with_reducible exact HS.out _ HR1.out | with_reducible exact HS.out _ hbA)
          (first | (go_at_call 70; (first | (with_reducible refine (HCC.out _ HR.out).mono ?_) | (with_reducible refine (HCC.out _ HR1.out).mono ?_)); rintro e w3 ⟨rfl, hbA⟩))
        all_goals
          go_wp2_with fail
          go_meet
          exact ⟨rfl, hbA⟩
      case rest =>
        obtain ⟨rfl, hb3⟩ := hcut
        obtain ⟨y0, y1, y2, y3, y4, y5, y6, m0, m1, m2, m3, m4, m5, m6⟩ := HS.out _ hb3
        have hbm := hbm.below hb3 (by omega)
        have hbz := hbz.below hb3 (by omega)
        by_cases hc : cm < 0
        · rw [if_pos hc] at HBE
          have hcd : decide (cm < 0) = true := by simp [hc]
          rw [hcd]
          have f0 := zfro hbm 0
          have f1 := zfro hbm 1
          have f2 := zfro hbm 2
          have f3 := zfro hbm 3
          have f4 := zfro hbm 4
          have f5 := zfro hbm 5
          have f6 := zfro hbm 6
          go_wp2_with fail
          go_roundw
          case rel =>
            refine ⟨k + 1, _, by omega, by omega, by rw [Int.natCast_add]; rfl, ?_, HBE.out, ?_, ?_⟩
            · exact block7 hbm _ _ _ _ _ _ _
            · exact (other7 wc (by omega) _ _ _ _ _ _ _).trans hbz
            · exact below7 (hbr.trans (hb3.mono (by omega))) (by omega) _ _ _ _ _ _ _
          case measure => simp [intOf]; omega
        · rw [if_neg hc] at HBE
          have hcd : decide (cm < 0) = false := by simp [hc]
          rw [hcd]
          go_wp2_with fail
          go_roundw
          case rel =>
            exact ⟨k + 1, _, by omega, by omega, by rw [Int.natCast_add]; rfl, hbm, HBE.out, hbz, hbr.trans (hb3.mono (by omega))⟩
          case measure => simp [intOf]; omega
    · obtain rfl : k = n := by omega
      rw [List.take_of_length_le (by rw [HN.out]; exact Nat.le_refl _)] at hbest
      have f0 := zfro hbz 0
      have f1 := zfro hbz 1
      have f2 := zfro hbz 2
      have f3 := zfro hbz 3
      have f4 := zfro hbz 4
      have f5 := zfro hbz 5
      have f6 := zfro hbz 6
      have hl1 := (Array.getElem?_eq_some_iff.1 hbm).1
      obtain ⟨z0, z1, z2, z3, z4, z5, z6⟩ := hbz.cells
      dsimp only [noSd] at z0 z1 z2 z3 z4 z5 z6
      have hkk : ((k : Int) < k) = False := by simp
      go_wp2_with fail
      have hzz := block7 hbz (.int .i64 m.c) (.int .i64 m.n) (.string m.key) (.string m.val) (.int .i64 m.time) (.int .i64 m.trust) (.int .i64 m.back)
      have hbb := below7 (Y := P0) hbr (Nat.le_refl _) (.int .i64 m.c) (.int .i64 m.n) (.string m.key) (.string m.val) (.int .i64 m.time) (.int .i64 m.trust) (.int .i64 m.back)
      generalize (((((((wr.setCell ⟨P0, 0, none⟩ (.int .i64 m.c)).setCell ⟨P0, 1, none⟩ (.int .i64 m.n)).setCell ⟨P0, 2, none⟩ (.string m.key)).setCell ⟨P0, 3, none⟩ (.string m.val)).setCell ⟨P0, 4, none⟩ (.int .i64 m.time)).setCell ⟨P0, 5, none⟩ (.int .i64 m.trust)).setCell ⟨P0, 6, none⟩ (.int .i64 m.back)) = wz at *
      obtain ⟨c0, c1, c2, c3, c4, c5, c6⟩ := BoxS.cells (x := m) hzz
      refine bodyPost_ret (v := valSd m) (by simp [results, Try.results69, go_sem, c0, c1, c2, c3, c4, c5, c6, valSd]) rfl ?_
      rw [hP0]
      exact ⟨m, rfl, hbest, hbb⟩
set_option maxRecDepth 100000 in
set_option maxHeartbeats 4000000 in
theorem least_sh (v : Value) (l : List Sd) (hok : ∀ s, s ∈ l → SdOK s) (h0 : l ≠ []) (w : World) (hv : Lst 7 encSd w v l) (hlen : l.length ≤ 1000000) (Y : Nat) (hYl : Y < w.heap.size) (hY : ∀ k, k < 4 → w.cell? ⟨Y, k, none⟩ = some (.func (.func (ordF k)) #[] #[])) :
    Calls Try.prog 52 #[v, .slice (some ⟨Y, 0, none⟩) 4 4] w fun e w' => ∃ m, e = .returned (valSd m) ∧ Best l m ∧ Below w.heap.size w w' := by
  obtain ⟨A, c, rfl, -, -, -⟩ := id hv
  have hM : ∀ X W, Below w.heap.size w W → w.heap.size ≤ X → X < W.heap.size → W.cell? ⟨X, 0, none⟩ = some (.slice (some ⟨Y, 0, none⟩) 4 4) → Calls Try.prog 69 #[.slice A l.length c, .func (.func 70) #[] #[.pointer (some ⟨X, 0, none⟩)]] W fun e w' => ∃ m, e = .returned (valSd m) ∧ Best l m ∧ Below W.heap.size W w' := fun X W hW hX hXl hXc =>
    minFunc_sh _ l hok h0 X W (hv.below hW) hlen fun W' a b hW' ha hb => least1_sh a b ha hb W' X Y ((hW'.cell (p := ⟨X, 0, none⟩) hXl).trans hXc) (by have := hW'.size; omega) (by have := hW'.size; have := hW.size; omega) fun k hk => (hW'.cell (p := ⟨Y, k, none⟩) (by show Y < _; have := hW.size; omega)).trans ((hW.cell (p := ⟨Y, k, none⟩) hYl).trans (hY k hk))
  have HM := Lib.hid hM
  clear hM hok hv hY
  go_enter Try.func52, Try.ntmps52
  go_upto_region 1 with fail
  have hx0 := heap_alloc_new w (.cells #[.slice (some ⟨Y, 0, none⟩) 4 4] 107)
  obtain ⟨w1, hw1⟩ : ∃ W, w.alloc (.cells #[.slice (some ⟨Y, 0, none⟩) 4 4] 107) = W := ⟨_, rfl⟩
  have hs1 : w1.heap.size = w.heap.size + 1 := by rw [← hw1]; simp
  have hb1 : Below w.heap.size w w1 := by rw [← hw1]; exact (Below.refl _ _).alloc (Nat.le_refl _) _
  rw [hw1] at hx0 ⊢
  have hz0 := heap_alloc_new w1 (.cells #[.int .i64 0, .int .i64 0, .string ⟨#[]⟩, .string ⟨#[]⟩, .int .i64 0, .int .i64 0, .int .i64 0] 38)
  obtain ⟨w2, hw2⟩ : ∃ W, w1.alloc (.cells #[.int .i64 0, .int .i64 0, .string ⟨#[]⟩, .string ⟨#[]⟩, .int .i64 0, .int .i64 0, .int .i64 0] 38) = W := ⟨_, rfl⟩
  have hs2 : w2.heap.size = w1.heap.size + 1 := by rw [← hw2]; simp
  have hb2 : Below w1.heap.size w1 w2 := by rw [← hw2]; exact (Below.refl _ _).alloc (Nat.le_refl _) _
  rw [hw2] at hz0 ⊢
  have hx0 := (hb2.block _ (by omega)).trans hx0
  have hb0 : Below w.heap.size w w2 := hb1.trans (hb2.mono (by omega))
  rw [hs1] at hz0
  have hc0 : w2.cell? ⟨w.heap.size, 0, none⟩ = some (.slice (some ⟨Y, 0, none⟩) 4 4) := by simp [World.cell?, hx0]
  have HM1 := HM.out w.heap.size w2 hb0 (Nat.le_refl _) (by omega) hc0
  obtain ⟨P0, hP0⟩ : ∃ P, w.heap.size = P := ⟨_, rfl⟩
  rw [hP0] at hz0 hs1 hb0 HM1 ⊢
  clear hw1 hw2 hb1 hb2 HM hx0 hc0
  have HM1 := Lib.hid HM1
  go_wp2_with fail
  refine HM1.out.mono ?_
  rintro e w3 ⟨m, rfl, hbest, hb3⟩
  have hz3 : BoxS w3 (P0 + 1) noSd := (hb3.block _ (by omega)).trans hz0
  have f0 := zfro hz3 0
  have f1 := zfro hz3 1
  have f2 := zfro hz3 2
  have f3 := zfro hz3 3
  have f4 := zfro hz3 4
  have f5 := zfro hz3 5
  have f6 := zfro hz3 6
  obtain ⟨z0, z1, z2, z3, z4, z5, z6⟩ := hz3.cells
  dsimp only [noSd] at z0 z1 z2 z3 z4 z5 z6
  have hb4 : Below P0 w w3 := hb0.trans (hb3.mono (by omega))
  obtain ⟨mc, mn, mkey, mval, mtime, mtrust, mback⟩ := m
  dsimp only [valSd]
  go_wp2_with fail
  have hzz := block7 hz3 (.int .i64 mc) (.int .i64 mn) (.string mkey) (.string mval) (.int .i64 mtime) (.int .i64 mtrust) (.int .i64 mback)
  have hbb := below7 (Y := P0 + 1) hb4 (by omega) (.int .i64 mc) (.int .i64 mn) (.string mkey) (.string mval) (.int .i64 mtime) (.int .i64 mtrust) (.int .i64 mback)
  generalize (((((((w3.setCell ⟨P0 + 1, 0, none⟩ (.int .i64 mc)).setCell ⟨P0 + 1, 1, none⟩ (.int .i64 mn)).setCell ⟨P0 + 1, 2, none⟩ (.string mkey)).setCell ⟨P0 + 1, 3, none⟩ (.string mval)).setCell ⟨P0 + 1, 4, none⟩ (.int .i64 mtime)).setCell ⟨P0 + 1, 5, none⟩ (.int .i64 mtrust)).setCell ⟨P0 + 1, 6, none⟩ (.int .i64 mback)) = wz at *
  obtain ⟨c0, c1, c2, c3, c4, c5, c6⟩ := BoxS.cells (x := ⟨mc, mn, mkey, mval, mtime, mtrust, mback⟩) hzz
  refine bodyPost_ret (v := valSd ⟨mc, mn, mkey, mval, mtime, mtrust, mback⟩) (by simp [results, Try.results52, go_sem, c0, c1, c2, c3, c4, c5, c6, valSd]) rfl ?_
  rw [hP0]
  exact ⟨_, rfl, hbest, hbb⟩
end Go.Proofs.Ytngigogaiheckaa
