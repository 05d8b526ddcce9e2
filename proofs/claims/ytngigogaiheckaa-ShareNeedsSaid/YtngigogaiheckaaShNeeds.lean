/- share: ShareNeeds: a centre that takes what it does not know knows what both know; once more changes nothing. -/
import Derived.Test.YtngigogaiheckaaShLaw
namespace Go.Proofs.Ytngigogaiheckaa
open Go.RowKit Go.Shelf Go.Lib Go.Maps

set_option maxRecDepth 100000 in
set_option maxHeartbeats 4000000 in
theorem needs_sh (v : Value) (l : List Tk) (w : World) (h : Lst 11 encT w v l) (hbt : ∀ t, t ∈ l → t.who < 256 ∧ t.frm < 256 ∧ t.many < 256) :
    Calls Try.prog 7 #[v] w fun e w' => e = .returned (.bool true) ∧ Below w.heap.size w w' := by
  have hlong := long_sh v l w h
  go_enter Try.func7, Try.ntmps7
  go_wp2_with fail
  refine hlong.mono ?_
  rintro e w1 ⟨⟨b, rfl, hb60⟩, hb1⟩
  cases b with
  | true =>
    go_wp2_with fail
    refine (awake_sh w1).mono ?_
    rintro e w2 ⟨rfl, hb2⟩
    go_wp2_with fail
    go_ret
    exact ⟨rfl, hb1.trans (hb2.mono hb1.size)⟩
  | false =>
    have hlen := hb60 rfl
    have hwd := world_sh v l w1 (h.below hb1) (by omega) hbt
    clear h hbt hb60 hlong
    go_wp2_with fail
    refine hwd.mono ?_
    rintro e w2 ⟨ps, F, vp, vs, rfl, hW⟩
    clear hwd
    have hinv := Inv.run (l := l) Inv.none
    obtain ⟨Wc, hWc⟩ : ∃ W, Wd.none.run l = W := ⟨_, rfl⟩
    rw [hWc] at hinv hW
    clear hWc
    have hl0 := hinv.lenA 0
    have hl1 := hinv.lenA 1
    have hll := hinv.len
    have hn0 := hinv.numsA 0
    have hn1 := hinv.numsA 1
    have hv0 := kn_vec hn0
    have hv1 := kn_vec hn1
    obtain ⟨gp, cp, rfl, hgp1, hgp2⟩ := hW.pics.form (by omega)
    obtain ⟨M, hM⟩ : ∃ M, betw (Wc.ar 0) (vecN (vecI (knF (Wc.ar 1)))) (knF (Wc.ar 0)) 8 = M := ⟨_, rfl⟩
    have hM2 : betw (Wc.ar 0) (fun c => kn (Wc.ar 1) ((c + 1 : Nat) : Int)) (fun c => kn (Wc.ar 0) ((c + 1 : Nat) : Int)) 8 = M := by
      rw [← hM]
      exact betw_low fun c hc => (vecN_vecI (knF (Wc.ar 1)) c hc).symm
    have hneed : ∀ c, c < 8 → max (knF (Wc.ar 0) c) (knF (Wc.ar 1) c) ≤ knF (Wc.ar 1 ++ fresh (Wc.ar 1) M) c := fun c hc => by
      rw [← hM2]
      exact needs hinv.nums hinv.uq (hinv.sub 0) (hinv.sub 1) hc
    have hMs : ∀ s, s ∈ M → s ∈ Wc.said := fun s hs => hinv.sub 0 s (betw_mem hn0 (fun c _ => Nat.le_refl _) (by rw [hM2]; exact hs)).1
    have hMl : M.length ≤ 480 := by
      rw [← hM]
      refine Nat.le_trans (betw_len _ _ _ 60 8 fun c _ => ?_) (by omega)
      have := kn_le_len hn0 ((c + 1 : Nat) : Int)
      show kn _ _ ≤ 60
      omega
    obtain ⟨A1, hA1⟩ : ∃ A1, Wc.ar 1 ++ fresh (Wc.ar 1) M = A1 := ⟨_, rfl⟩
    have hinv2 := hinv.taken 1 hMs
    rw [hA1] at hinv2 hneed
    have hfr : fresh A1 M = [] := by rw [← hA1]; exact fresh_twice _ _
    have hlA := hinv2.lenA 1
    dsimp only at hlA
    rw [up_same] at hlA
    have HW := Lib.hid hW
    have HS : Hid (∀ W' : World, W'.heap[gp]? = w2.heap[gp]? → W'.cell? ⟨gp, 0, none⟩ = some (.pointer (some ⟨ps 0, 0, none⟩)) ∧ W'.cell? ⟨gp, 1, none⟩ = some (.pointer (some ⟨ps 1, 0, none⟩))) := Lib.hid fun W' hW' => ⟨(World.cell?_of_block hW').trans (hW.ptr (i := 0) (by omega)), (World.cell?_of_block hW').trans (hW.ptr (i := 1) (by omega))⟩
    have HK0 : Hid (∀ W', Below w2.heap.size w2 W' → Calls Try.prog 11 #[.pointer (some ⟨ps 0, 0, none⟩)] W' fun e w' => ∃ v, e = .returned v ∧ Lst 1 encI w' v (vecI (knF (Wc.ar 0))) ∧ Below w2.heap.size w2 w') := Lib.hid fun W' hW' =>
      ((hW.on hW').known (by omega) (by omega)).mono fun _ _ ⟨v, h1, _, h3, h4⟩ => ⟨v, h1, h3, hW'.trans (h4.mono hW'.size)⟩
    have HK1 : Hid (∀ W', Below w2.heap.size w2 W' → Calls Try.prog 11 #[.pointer (some ⟨ps 1, 0, none⟩)] W' fun e w' => ∃ v, e = .returned v ∧ Lst 1 encI w' v (vecI (knF (Wc.ar 1))) ∧ Below w2.heap.size w2 w' ∧ Below W'.heap.size W' w') := Lib.hid fun W' hW' =>
      ((hW.on hW').known (by omega) (by omega)).mono fun _ _ ⟨v, h1, _, h3, h4⟩ => ⟨v, h1, h3, hW'.trans (h4.mono hW'.size), h4⟩
    have HJ : Hid (∀ W' va vb, Below w2.heap.size w2 W' → Lst 1 encI W' va (vecI (knF (Wc.ar 0))) → Lst 1 encI W' vb (vecI (knF (Wc.ar 1))) → Calls Try.prog 19 #[va, vb] W' fun e w' => ∃ v, e = .returned (.tuple #[v, .int .i64 0]) ∧ w'.ownsRow w2.heap.size 3 1 v 8 (encV (maxV (vecN (vecI (knF (Wc.ar 0)))) (vecN (vecI (knF (Wc.ar 1)))))) ∧ Below w2.heap.size w2 w') := Lib.hid fun W' va vb hW' ha hb =>
      (join_ok va vb _ _ W' ha hb hv0 hv1).mono fun _ _ ⟨v, h1, h2, h3⟩ => ⟨v, h1, ownsMono h2 hW'.size, hW'.trans (h3.mono hW'.size)⟩
    have HSi : Hid (∀ W' v, Below w2.heap.size w2 W' → Lst 1 encI W' v (vecI (knF (Wc.ar 1))) → Calls Try.prog 25 #[.pointer (some ⟨ps 0, 0, none⟩), v] W' fun e w' => ∃ x, e = .returned (.tuple #[x, .int .i64 0]) ∧ w'.ownsRow w2.heap.size 38 7 x M.length (flatE encSd M) ∧ Below W'.heap.size W' w') := Lib.hid fun W' v hW' hv => by
      rw [← hM]
      exact (since_sh W' ((hW.on hW').pic 0 (by omega)) (by omega) hn0 v _ hv hv1).mono fun _ _ ⟨x, h1, h2, h3⟩ => ⟨x, h1, ownsMono h2 hW'.size, h3⟩
    have HD := Lib.hid (belowDrew (Below.refl w2.heap.size w2))
    have hr0 : w2.heap[gp]? = w2.heap[gp]? := rfl
    have hr1 : w2.drew.heap[gp]? = w2.heap[gp]? := rfl
    have HI := Lib.hid hinv
    have HI2 := Lib.hid hinv2
    have HMs := Lib.hid hMs
    have HNd := Lib.hid hneed
    have HFr := Lib.hid hfr
    have HA1 := Lib.hid hA1
    clear hW hinv hinv2 hMs hneed hfr hA1 hM hM2 hn0 hn1 hv0 hv1
    go_upto_region 6 with fail
    go_region_held3 (fun W' => W'.cell? ⟨gp, 0, none⟩ = some (.pointer (some ⟨ps 0, 0, none⟩)) ∧ W'.cell? ⟨gp, 1, none⟩ = some (.pointer (some ⟨ps 1, 0, none⟩)))
      (first | with_reducible exact HS.out _ hr0 | with_reducible exact HS.out _ hr1 | with_reducible exact HS.out _ hA | with_reducible exact HS.out _ hB | with_reducible exact HS.out _ hJ)
      (first | (go_at_call 11; (with_reducible refine (HK0.out _ HD.out).mono ?_); rintro e wa ⟨va, rfl, hva, hba⟩; have hA : wa.heap[gp]? = w2.heap[gp]? := hba.block gp hgp2) | (go_at_call 11; (with_reducible refine (HK1.out _ hba).mono ?_); rintro e wb ⟨vb, rfl, hvb, hbb, hbab⟩; have hB : wb.heap[gp]? = w2.heap[gp]? := hbb.block gp hgp2) | (go_at_call 19; (with_reducible refine (HJ.out _ _ _ hbb (hva.below hbab) hvb).mono ?_); rintro e wj ⟨vj, rfl, hvj, hbj⟩; have hJ : wj.heap[gp]? = w2.heap[gp]? := hbj.block gp hgp2))
    clear hva hba hA hvb hbb hbab hB HK0 HJ HD hr0 hr1
    have HD := Lib.hid (belowDrew hbj)
    have HVJ := Lib.hid hvj
    have HBJ := Lib.hid hbj
    have hr1 : wj.drew.heap[gp]? = w2.heap[gp]? := hJ
    clear hvj hbj
    go_upto_region 7 with fail
    go_region_held3 (fun W' => W'.cell? ⟨gp, 0, none⟩ = some (.pointer (some ⟨ps 0, 0, none⟩)) ∧ W'.cell? ⟨gp, 1, none⟩ = some (.pointer (some ⟨ps 1, 0, none⟩)))
      (first | with_reducible exact HS.out _ hJ | with_reducible exact HS.out _ hr1 | with_reducible exact HS.out _ hB | with_reducible exact HS.out _ hC)
      (first | (go_at_call 11; (with_reducible refine (HK1.out _ HD.out).mono ?_); rintro e wb ⟨vb, rfl, hvb, hbb, hbab⟩; have hB : wb.heap[gp]? = w2.heap[gp]? := hbb.block gp hgp2) | (go_at_call 25; (with_reducible refine (HSi.out _ _ hbb hvb).mono ?_); rintro e wc ⟨x, rfl, hx, hbc⟩; have hC : wc.heap[gp]? = w2.heap[gp]? := (hbb.trans (hbc.mono hbb.size)).block gp hgp2))
    have hbcw := hbb.trans (hbc.mono hbb.size)
    have hWc := HW.out.on hbcw
    have hxl := Lst_of_own encSd_len hx rfl
    have ht := hWc.take HI.out (i := 1) (by omega) hxl HMs.out (by omega)
    rw [HA1.out] at ht
    have hx2 : ∀ w', Ext (F 1) wc w' → w'.ownsRow w2.heap.size 38 7 x M.length (flatE encSd M) := fun w' hE => rowExt (N := wc.heap.size) hx hE (fun b hb => .inl (HW.out.lo 1 b (by omega) hb).2) fun g hg => (ownBlock_lt hx hg).2
    have hvj2 : ∀ w', Ext (F 1) wc w' → w'.ownsRow w2.heap.size 3 1 vj 8 (encV (maxV (vecN (vecI (knF (Wc.ar 0)))) (vecN (vecI (knF (Wc.ar 1)))))) := fun w' hE => by
      have h1 := ownsBelow HVJ.out (Below.trans (belowDrew (Below.refl wj.heap.size wj)) (Below.trans hbab (hbc.mono hbab.size)))
      exact rowExt (N := wc.heap.size) h1 hE (fun b hb => .inl (HW.out.lo 1 b (by omega) hb).2) fun g hg => (ownBlock_lt h1 hg).2
    have HX2 := Lib.hid hx2
    have HV2 := Lib.hid hvj2
    have HVJ2 := Lib.hid (ownsBelow HVJ.out (Below.trans (belowDrew (Below.refl wj.heap.size wj)) (Below.trans hbab (hbc.mono hbab.size))))
    have HT := Lib.hid ht
    have hpc := (HS.out _ hC).2
    clear hx2 hvj2 ht hxl hbc hbab hx hWc hvb hJ hr1 HD HVJ HBJ hB hbb HSi
    clear hC
    go_wp2_with fail
    refine HT.out.mono ?_
    rintro e wt ⟨rfl, hWt, hEt⟩
    have hxt := HX2.out wt hEt
    have hvt := HV2.out wt hEt
    have hbt := belowExt hEt (n := w1.heap.size) (fun b hf => (HW.out.lo 1 b (by omega) hf).1) (by have := HW.out.below.size; have := hbcw.size; omega)
    have hpt := hWt.ptr (i := 1) (by omega)
    have har := arrived_sh wt (hWt.pic 1 (by omega))
    dsimp only at har
    rw [up_same] at har
    have ht2 : Calls Try.prog 14 #[.pointer (some ⟨ps 1, 0, none⟩), x] wt fun e w' => e = .returned (.tuple #[.int .i64 0, .int .i64 0]) ∧ (∃ F2, WdAt w1 w' 3 ⟨up Wc.ar 1 A1, Wc.said⟩ ps F2 (.slice (some ⟨gp, 0, none⟩) 3 cp) vs) ∧ (w'.ownsRow w2.heap.size 3 1 vj 8 (encV (maxV (vecN (vecI (knF (Wc.ar 0)))) (vecN (vecI (knF (Wc.ar 1))))))) := by
      refine (hWt.take HI2.out (i := 1) (by omega) (Lst_of_own encSd_len hxt rfl) HMs.out (by dsimp only; omega)).mono ?_
      rintro e w' ⟨h1, h2, h3⟩
      dsimp only at h1 h2 h3
      rw [up_same, HFr.out] at h1
      rw [up_same, HFr.out, List.append_nil, up_up] at h2
      rw [if_pos rfl] at h3
      refine ⟨h1, ⟨_, h2⟩, rowExt (N := wc.heap.size) hvt h3 (fun b hb => ?_) fun g hg => ?_⟩
      · rcases hb with hb | hb
        · exact .inl (HW.out.lo 1 b (by omega) hb).2
        · exact .inr hb.1
      · have h4 := ownsBelow HVJ2.out (Below.refl _ _)
        exact (ownBlock_lt h4 hg).2
    have HT2 := Lib.hid ht2
    have HAR := Lib.hid har
    clear ht2 har hxt hvt HX2 HV2 HT hpc hEt hWt
    go_wp2_with fail
    refine HAR.out.mono ?_
    rintro e wu ⟨rfl, rfl⟩
    go_wp2_with fail
    refine HT2.out.mono ?_
    rintro e wu ⟨rfl, ⟨F2, hWu⟩, hvu⟩
    have hpu := hWu.ptr (i := 1) (by omega)
    have hku := hWu.known (i := 1) (by omega) (by dsimp only; rw [up_same]; omega)
    dsimp only at hku
    rw [up_same] at hku
    have HKU := Lib.hid hku
    have HVU := Lib.hid hvu
    have HWU := Lib.hid hWu
    clear hku hvu hWu HT2
    go_wp2_with fail
    refine HKU.out.mono ?_
    rintro e wk ⟨vk, rfl, hvk, -, hbk⟩
    have hWk := HWU.out.on hbk
    have hpk := hWk.ptr (i := 1) (by omega)
    have hvjk := ownsBelow HVU.out hbk
    have har := arrived_sh wk (hWk.pic 1 (by omega))
    dsimp only at har
    rw [up_same] at har
    obtain ⟨gk, ck, rfl, -, hgk⟩ := hvk.form (by omega)
    obtain ⟨gj, cj, rfl, -, hgj⟩ := hvjk.form (by omega)
    have HAR2 := Lib.hid har
    have HC : Hid (∀ k, k < 8 → wk.cell? ⟨gk, k, none⟩ = some (.int .i64 (knF A1 k)) ∧ wk.cell? ⟨gj, k, none⟩ = some (.int .i64 (maxV (vecN (vecI (knF (Wc.ar 0)))) (vecN (vecI (knF (Wc.ar 1)))) k))) := Lib.hid fun k hk => ⟨rowAt hvk (encV_get _ hk), rowAt hvjk (encV_get _ hk)⟩
    have hbw : Below w.heap.size w wk := hb1.trans (hWk.below.mono hb1.size)
    have HBW := Lib.hid hbw
    clear hbw hvjk har hWk hvk hbk HWU HVU HKU hpu HAR
    have hle : ∀ k, k < 8 → ((knF A1 k : Int) < (maxV (vecN (vecI (knF (Wc.ar 0)))) (vecN (vecI (knF (Wc.ar 1)))) k : Nat)) = False := fun k hk => by
      have h1 := HNd.out k hk
      have h2 : maxV (vecN (vecI (knF (Wc.ar 0)))) (vecN (vecI (knF (Wc.ar 1)))) k = max (knF (Wc.ar 0) k) (knF (Wc.ar 1) k) := by
        unfold maxV
        rw [vecN_vecI _ _ hk, vecN_vecI _ _ hk]
      simp only [eq_iff_iff, iff_false]
      omega
    have HLE := Lib.hid hle
    clear hle HNd HMs HFr HA1 HI HI2 HVJ2 hbcw hpt HS HK1 hbt
    go_wp2_with fail
    refine HAR2.out.mono ?_
    rintro e wv ⟨rfl, rfl⟩
    go_wp2_with fail
    go_loopw [16] (fun i wr => ∃ k : Nat, k ≤ 8 ∧ i = .int .i64 k ∧ Below wk.heap.size wk wr) (fun i _ => 8 - (intOf i).toNat)
    case atStart => exact ⟨0, by omega, rfl, Below.refl _ _⟩
    case round =>
      obtain ⟨k, hk, rfl, hbr⟩ := hrel
      by_cases hlt : k < 8
      · have x0 := (hbr.cell (p := ⟨gk, k, none⟩) hgk).trans (HC.out k hlt).1
        have y0 := (hbr.cell (p := ⟨gj, k, none⟩) hgj).trans (HC.out k hlt).2
        have hk1 : (k : Int) < 8 := by omega
        have hk0 : (0 : Int) ≤ k := by omega
        have hwk : IntKind.i64.wrap ((k : Int) + 1) = k + 1 := wrapK _ (by omega) (by omega)
        have hle := HLE.out k hlt
        go_upto_region 17 with fail
        go_quiet (fail)
        go_wp2_with fail
        go_roundw
        case rel => exact ⟨k + 1, by omega, by go_num, belowDrewN hbr nq⟩
        case measure => simp [intOf]; omega
      · obtain rfl : k = 8 := by omega
        go_wp2_with fail
        refine (awake_sh wr).mono ?_
        rintro e wz ⟨rfl, hbz⟩
        go_wp2_with fail
        go_ret
        have hbk := HBW.out.trans (hbr.mono HBW.out.size)
        exact ⟨rfl, hbk.trans (hbz.mono hbk.size)⟩
end Go.Proofs.Ytngigogaiheckaa
