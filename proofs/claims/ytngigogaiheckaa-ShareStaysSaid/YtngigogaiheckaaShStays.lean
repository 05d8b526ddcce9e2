/- share: ShareStays: what is shown at a vector stays, whatever comes later; what was known behind an arrival stays, and rises. -/
import Derived.Test.YtngigogaiheckaaShWhen
import Derived.Deep.RegionHeld3
namespace Go.Proofs.Ytngigogaiheckaa
open Go.RowKit Go.Shelf Go.Lib Go.Maps

theorem infoT : (Try.prog.info? 58).map (fun i => (i.zero, i.size, i.bytes)) = some (some (.agg #[.int .u8 0, .int .u8 0, .int .u8 0, .bool false, .int .i64 0, .int .i64 0, .string ByteArray.empty, .string ByteArray.empty, .int .i64 0, .int .i64 0, .int .i64 0]), 11, 80) := by kernel_rfl
theorem encT_one (x : Tk) (u : Value) (h : u ∈ encT x) : u.oneCell' = true := by
  unfold encT at h
  simp only [List.mem_cons, List.not_mem_nil, or_false] at h
  rcases h with rfl | rfl | rfl | rfl | rfl | rfl | rfl | rfl | rfl | rfl | rfl <;> rfl
def StaysRel (Q : List Sd) (nq : Nat) (wk : World) (v15 v17 : Value) (wy : World) : Prop := ∃ i : Nat, i ≤ nq + 1 ∧ v17 = .int .i64 i ∧ wy.ownsRow wk.heap.size 3 1 v15 8 (encV (knF (Q.take (i - 1)))) ∧ Below wk.heap.size wk wy

set_option maxRecDepth 100000 in
set_option maxHeartbeats 16000000 in
theorem stays_sh (va vb : Value) (l m : List Tk) (w : World) (hl : Lst 11 encT w va l) (hm : Lst 11 encT w vb m) (hlt : ∀ t, t ∈ l → t.who < 256 ∧ t.frm < 256 ∧ t.many < 256) (hmt : ∀ t, t ∈ m → t.who < 256 ∧ t.frm < 256 ∧ t.many < 256) :
    Calls Try.prog 6 #[va, vb] w fun e w' => e = .returned (.bool true) ∧ Below w.heap.size w w' := by
  have hlongA := long_sh va l w hl
  have hlongB := fun W (hW : Below w.heap.size w W) => long_sh vb m W (hm.below hW)
  have HLA := Lib.hid hlongA
  have HLB := Lib.hid hlongB
  have HL := Lib.hid hl
  have HM := Lib.hid hm
  obtain ⟨A, ca, rfl, -⟩ := hl
  obtain ⟨B, cb, rfl, -⟩ := hm
  clear hlongA hlongB
  obtain ⟨nl, hnl⟩ : ∃ n, l.length = n := ⟨_, rfl⟩
  obtain ⟨nm, hnm⟩ : ∃ n, m.length = n := ⟨_, rfl⟩
  rw [hnl] at HLA HL ⊢
  rw [hnm] at HLB HM ⊢
  obtain ⟨i2, hi2, hy0, hy1, hy2⟩ := info_parts infoT
  go_enter Try.func6, Try.ntmps6
  go_wp2_with fail
  refine HLA.out.mono ?_
  rintro e w1 ⟨⟨b, rfl, hb60⟩, hb1⟩
  cases b with
  | true =>
    go_wp2_with fail
    refine (awake_sh w1).mono ?_
    rintro e w2 ⟨rfl, hb2⟩
    go_wp2_with fail
    go_ret
    exact ⟨rfl, hb1.trans (hb2.mono hb1.size)⟩
  | false =>
    have hl60 := hb60 rfl
    clear hb60
    go_wp2_with fail
    refine (HLB.out w1 hb1).mono ?_
    rintro e w2 ⟨⟨b, rfl, hb60⟩, hb2⟩
    have hb2w : Below w.heap.size w w2 := hb1.trans (hb2.mono hb1.size)
    cases b with
    | true =>
      go_wp2_with fail
      refine (awake_sh w2).mono ?_
      rintro e w3 ⟨rfl, hb3⟩
      go_wp2_with fail
      go_ret
      exact ⟨rfl, hb2w.trans (hb3.mono hb2w.size)⟩
    | false =>
      have hm60 := hb60 rfl
      have hwd := world_sh _ l w2 (HL.out.below hb2w) (by omega) hlt
      have HWD := Lib.hid hwd
      have HB2 := Lib.hid hb2w
      clear hb60 hwd hb2 hb1 hb2w HLA HLB
      have HNL := Lib.hid hnl
      have HNM := Lib.hid hnm
      clear hnl hnm
      go_wp2_with fail
      refine HWD.out.mono ?_
      rintro e w3 ⟨ps, F, vp, vs, rfl, hW⟩
      have HW := Lib.hid hW
      clear hW HWD
      go_upto_region 4 with fail
      have hba := (Below.refl w3.heap.size w3).alloc (Nat.le_refl _) (.cells #[] 58)
      have hown0 : (w3.alloc (.cells #[] 58)).ownsRow w3.heap.size 58 11 (.slice (some ⟨w3.heap.size, 0, none⟩) 0 0) 0 [] := World.ownsRow_lit (base := w3.heap.size) (e := 58) (size := 11) w3 #[] 0 (Nat.le_refl _) (by unfold maxLen; omega) rfl
      have hb3 : Below w.heap.size w w3 := HB2.out.trans (HW.out.below.mono HB2.out.size)
      have hl3 : Lst 11 encT (w3.alloc (.cells #[] 58)) (.slice A nl ca) l := HL.out.below (hb3.trans (hba.mono hb3.size))
      have hm3 : Lst 11 encT (w3.alloc (.cells #[] 58)) (.slice B nm cb) m := HM.out.below (hb3.trans (hba.mono hb3.size))
      have hsz : (w3.alloc (.cells #[] 58)).heap.size = w3.heap.size + 1 := by simp
      have HBA := Lib.hid hba
      have HB3 := Lib.hid hb3
      have HM3 := Lib.hid hm3
      have HL3 := Lib.hid hl3
      have HSZ := Lib.hid hsz
      have HO := Lib.hid hown0
      clear hba hown0 hb3 hl3 hm3 hsz
      go_wp2_with (at_builtin; first | (refine wpList_append_lst encT_len encT_one rfl _ _ _ rfl w3.heap.size 58 i2 _ 80 Try.underlying22 hi2 hy0 hy1 hy2 rfl (by omega) (.slice (some ⟨w3.heap.size, 0, none⟩) 0 0) 0 [] rfl HO.out (.slice A nl ca) l rfl HL3.out (by rw [HNL.out]; unfold maxLen; omega) (by rw [HNL.out]; omega) (by rw [HSZ.out]; omega) ?_; intro v39 w39 h39 g39; have hb39 : Below w3.heap.size w3 w39 := HBA.out.grown g39 (by rw [HSZ.out]; omega) (fun r e => (ownBlock_lt HO.out e).1); have hm39 : Lst 11 encT w39 (.slice B nm cb) m := HM.out.below (HB3.out.trans (hb39.mono HB3.out.size)); have hs39 := hb39.size) | (refine wpList_append_lst encT_len encT_one rfl _ _ _ rfl w3.heap.size 58 i2 _ 80 Try.underlying22 hi2 hy0 hy1 hy2 rfl (by omega) v39 (0 + l.length) _ rfl h39 (.slice B nm cb) m rfl hm39 (by rw [HNL.out, HNM.out]; unfold maxLen; omega) (by rw [HNL.out, HNM.out]; omega) hs39 ?_; intro v41 w41 h41 g41))
      have hb41 : Below w3.heap.size w3 w41 := hb39.grown g41 hs39 (fun r e => (ownBlock_lt h39 e).1)
      have hcat : Lst 11 encT w41 v41 (l ++ m) := by
        rw [List.nil_append, ← flatE_append] at h41
        exact Lst_of_own encT_len h41 (by simp)
      have hwd := world_sh v41 (l ++ m) w41 hcat (by rw [List.length_append, HNL.out, HNM.out]; omega) (fun t ht => (List.mem_append.1 ht).elim (hlt t) (hmt t))
      have hWo := HW.out.on hb41
      have HWO := Lib.hid hWo
      have HWD := Lib.hid hwd
      have HB41 := Lib.hid (HB3.out.trans (hb41.mono HB3.out.size))
      clear hwd hcat h41 g41 hb41 hWo h39 g39 hb39 hm39 hs39 HM3 HL3 HSZ HO HBA HW hlt hmt
      refine HWD.out.mono ?_
      rintro e w5 ⟨qs, G, vq, vt, rfl, hV⟩
      have hb5 := hV.below
      have hW5 := HWO.out.on hb5
      have hinvP := Inv.run (l := l) Inv.none
      have hinvQ := Inv.run (l := l ++ m) Inv.none
      obtain ⟨mm, hmm⟩ := run_grows m 0 (Wd.none.run l)
      rw [← Wd.run_append] at hmm
      obtain ⟨WP, hWP⟩ : ∃ W, Wd.none.run l = W := ⟨_, rfl⟩
      obtain ⟨WQ, hWQ⟩ : ∃ W, Wd.none.run (l ++ m) = W := ⟨_, rfl⟩
      rw [hWP] at hinvP hmm hW5
      rw [hWQ] at hinvQ hmm hV
      obtain ⟨P, hP⟩ : ∃ P, WP.ar 0 = P := ⟨_, rfl⟩
      obtain ⟨Q, hQ⟩ : ∃ Q, WQ.ar 0 = Q := ⟨_, rfl⟩
      rw [hP, hQ] at hmm
      obtain ⟨np, hnp⟩ : ∃ n, P.length = n := ⟨_, rfl⟩
      obtain ⟨nq, hnq⟩ : ∃ n, Q.length = n := ⟨_, rfl⟩
      have hnq1 : nq ≤ 120 := by
        have h1 := hinvQ.lenA 0
        have h2 := hinvQ.len
        rw [hQ, hnq] at h1
        rw [List.length_append, HNL.out, HNM.out] at h2
        omega
      have hnpq : np ≤ nq := by rw [← hnp, ← hnq, hmm, List.length_append]; omega
      have hNP := hinvP.numsA 0
      have hNQ := hinvQ.numsA 0
      have hOP := hinvP.oks 0
      have hOQ := hinvQ.oks 0
      have hUQ := hinvQ.uqA 0
      rw [hP] at hNP hOP
      rw [hQ] at hNQ hOQ hUQ
      have hsub : ∀ s, s ∈ P → s ∈ Q := fun s hs => by rw [hmm]; exact List.mem_append.2 (.inl hs)
      have hkle : ∀ c, knF P c ≤ knF Q c := knF_grows hNQ hsub
      obtain ⟨gp, cp, rfl, hgp1, hgp2⟩ := hW5.pics.form (by omega)
      obtain ⟨gq, cq, rfl, hgq1, hgq2⟩ := hV.pics.form (by omega)
      have hpp := hW5.pic 0 (by omega)
      have hqq := hV.pic 0 (by omega)
      rw [hP] at hpp
      rw [hQ] at hqq
      have HS : Hid (∀ W' : World, Below w5.heap.size w5 W' → W'.cell? ⟨gp, 0, none⟩ = some (.pointer (some ⟨ps 0, 0, none⟩)) ∧ W'.cell? ⟨gq, 0, none⟩ = some (.pointer (some ⟨qs 0, 0, none⟩))) := Lib.hid fun W' hW' =>
        ⟨(hW'.cell (p := ⟨gp, 0, none⟩) hgp2).trans (hW5.ptr (i := 0) (by omega)), (hW'.cell (p := ⟨gq, 0, none⟩) hgq2).trans (hV.ptr (i := 0) (by omega))⟩
      have HAP : Hid (∀ W', Below w5.heap.size w5 W' → Calls Try.prog 23 #[.pointer (some ⟨ps 0, 0, none⟩)] W' fun e w' => e = .returned (.int .i64 np) ∧ W' = w') := Lib.hid fun W' hW' => by rw [← hnp]; exact arrived_sh W' (hpp.below hW')
      have HAQ : Hid (∀ W', Below w5.heap.size w5 W' → Calls Try.prog 23 #[.pointer (some ⟨qs 0, 0, none⟩)] W' fun e w' => e = .returned (.int .i64 nq) ∧ W' = w') := Lib.hid fun W' hW' => by rw [← hnq]; exact arrived_sh W' (hqq.below hW')
      have HKP : Hid (∀ W', Below w5.heap.size w5 W' → Calls Try.prog 11 #[.pointer (some ⟨ps 0, 0, none⟩)] W' fun e w' => ∃ v, e = .returned v ∧ Lst 1 encI w' v (vecI (knF P)) ∧ Below W'.heap.size W' w') := Lib.hid fun W' hW' =>
        (known_sh W' (hpp.below hW') (by omega)).mono fun _ _ ⟨v, h1, h2, h3⟩ => ⟨v, h1, Lst_of_own encI_len (l := vecI (knF P)) h2 rfl, h3⟩
      have HKQ : Hid (∀ W', Below w5.heap.size w5 W' → Calls Try.prog 11 #[.pointer (some ⟨qs 0, 0, none⟩)] W' fun e w' => ∃ v, e = .returned v ∧ Lst 1 encI w' v (vecI (knF Q)) ∧ Below W'.heap.size W' w') := Lib.hid fun W' hW' =>
        (known_sh W' (hqq.below hW') (by omega)).mono fun _ _ ⟨v, h1, h2, h3⟩ => ⟨v, h1, Lst_of_own encI_len (l := vecI (knF Q)) h2 rfl, h3⟩
      have HSP : Hid (∀ W', Below w5.heap.size w5 W' → Calls Try.prog 16 #[.pointer (some ⟨ps 0, 0, none⟩)] W' fun e w' => ∃ v out, e = .returned v ∧ Lst 8 encW w' v out ∧ Shows (betw P (fun _ => 0) (knF P) 8) out ∧ Below W'.heap.size W' w') := Lib.hid fun W' hW' =>
        (showAll_sh W' (hpp.below hW') (by omega) (fun s hs => SdOK.of (hOP s hs))).mono fun _ _ ⟨v, out, h1, h2, h3, h4⟩ => ⟨v, out, h1, Lst_of_own encW_len h2 rfl, h3, h4⟩
      have HTQ : Hid (∀ W' v, Below w5.heap.size w5 W' → Lst 1 encI W' v (vecI (knF P)) → Calls Try.prog 12 #[.pointer (some ⟨qs 0, 0, none⟩), v] W' fun e w' => ∃ x out, e = .returned (.tuple #[x, .int .i64 0]) ∧ Lst 8 encW w' x out ∧ Shows (betw Q (fun _ => 0) (knF P) 8) out ∧ Below W'.heap.size W' w') := Lib.hid fun W' v hW' hv => by
        refine (at_sh W' (hqq.below hW') (by omega) (fun s hs => SdOK.of (hOQ s hs)) v (vecI (knF P)) hv (kn_vec hNP) (fun c hc => by rw [vecN_vecI _ _ hc]; exact hkle c)).mono ?_
        rintro e w' ⟨x, out, h1, h2, h3, h4⟩
        rw [betw_hi fun c hc => vecN_vecI (knF P) c hc] at h3
        exact ⟨x, out, h1, Lst_of_own encW_len h2 rfl, h3, h4⟩
      have HSM : Hid (∀ x y, Shows (betw P (fun _ => 0) (knF P) 8) x → Shows (betw Q (fun _ => 0) (knF P) 8) y → x = y) := Lib.hid fun x y hx hy =>
        shown_two hNP hNQ hUQ hsub (fun s hs => hs) (fun c _ => Nat.le_refl _) (fun c _ => hkle c) hx hy
      have HWP : Hid (∀ W' (i : Nat), Below w5.heap.size w5 W' → i ≤ np → Calls Try.prog 24 #[.pointer (some ⟨ps 0, 0, none⟩), .int .i64 i] W' fun e w' => ∃ v, e = .returned (.tuple #[v, .int .i64 0]) ∧ w'.ownsRow W'.heap.size 3 1 v 8 (encV (knF (Q.take i))) ∧ Below W'.heap.size W' w') := Lib.hid fun W' i hW' hi => by
        have h1 := when_sh W' (hpp.below hW') i (by omega) (by omega)
        have h2 : Q.take i = P.take i := by rw [hmm, List.take_append_of_le_length (by omega)]
        rw [h2]
        exact h1
      have HWN : Hid (∀ W' (i : Nat), Below w5.heap.size w5 W' → np < i → Calls Try.prog 24 #[.pointer (some ⟨ps 0, 0, none⟩), .int .i64 i] W' fun e w' => e = .returned (.tuple #[.slice none 0 0, .int .i64 7]) ∧ W' = w') := Lib.hid fun W' i hW' hi => when_no W' (hpp.below hW') i (by omega)
      have HWQ : Hid (∀ W' (i : Nat), Below w5.heap.size w5 W' → i ≤ nq → Calls Try.prog 24 #[.pointer (some ⟨qs 0, 0, none⟩), .int .i64 i] W' fun e w' => ∃ v, e = .returned (.tuple #[v, .int .i64 0]) ∧ w'.ownsRow W'.heap.size 3 1 v 8 (encV (knF (Q.take i))) ∧ Below W'.heap.size W' w') := Lib.hid fun W' i hW' hi => when_sh W' (hqq.below hW') i (by omega) (by omega)
      have HUP : Hid (∀ i c, knF (Q.take (i - 1)) c ≤ knF (Q.take i) c) := Lib.hid fun i c => knF_grows (hNQ.sub fun s hs => List.mem_of_mem_take hs) (take_sub (by omega)) c
      have HALL : Hid (Q.take nq = Q) := Lib.hid (List.take_of_length_le (by omega))
      have HB5 := Lib.hid (HB41.out.trans (hb5.mono HB41.out.size))
      have HGP := Lib.hid hgp2
      have HGQ := Lib.hid hgq2
      clear hW5 hinvP hinvQ hmm hWP hWQ hP hQ hnp hnq hNP hNQ hOP hOQ hUQ hsub hkle hpp hqq hV hb5 HWO HWD HB41 HB3 HB2 HL HM hgp1 hgq1
      go_upto_region 7 with fail
      have hp5 := (HS.out w5 (Below.refl _ _)).1
      have hk5 := HKP.out w5 (Below.refl _ _)
      have HK5 := Lib.hid hk5
      clear hk5
      go_wp2_with fail
      refine HK5.out.mono ?_
      rintro e w6 ⟨v11, rfl, hv11, hb6⟩
      have hp6 := (HS.out w6 hb6).1
      have hs6 := HSP.out w6 hb6
      have HV11 := Lib.hid hv11
      have HB6 := Lib.hid hb6
      have HS6 := Lib.hid hs6
      clear hv11 hb6 hs6 HK5 hp5 HKP
      go_wp2_with fail
      refine HS6.out.mono ?_
      rintro e w7 ⟨v12, o12, rfl, hv12, hs12, hb7⟩
      have hb57 := HB6.out.trans (hb7.mono HB6.out.size)
      have hq7 := (HS.out w7 hb57).2
      have ht7 := HTQ.out w7 v11 hb57 (HV11.out.below hb7)
      have HT7 := Lib.hid ht7
      have HV12 := Lib.hid hv12
      have HS12 := Lib.hid hs12
      have HB57 := Lib.hid hb57
      clear ht7 hv12 hs12 hb57 hb7 HS6 HTQ HV11 HB6 hp6 HSP
      go_wp2_with fail
      refine HT7.out.mono ?_
      rintro e w8 ⟨v13, o13, rfl, hv13, hs13, hb8⟩
      have he := HSM.out _ _ HS12.out hs13
      subst he
      have hb58 := HB57.out.trans (hb8.mono HB57.out.size)
      have HV12b := Lib.hid (HV12.out.below hb8)
      have HV13 := Lib.hid hv13
      have HB58 := Lib.hid hb58
      have HSHW : Hid (∀ W', Below w8.heap.size w8 W' → Calls Try.prog 13 #[v12, v13] W' fun e w' => e = .returned (.bool true) ∧ Below W'.heap.size W' w') := Lib.hid fun W' hW' => by
        have := shows_sh v12 v13 _ _ W' (HV12b.out.below hW') (HV13.out.below hW')
        rwa [decide_eq_true rfl] at this
      have HD := Lib.hid (belowDrew (Below.refl w8.heap.size w8))
      have hle : ((nq : Int) < np) = False := by simp only [eq_iff_iff, iff_false]; omega
      clear hv13 hs13 hb8 hb58 HT7 hq7 HSM HS12 HB57 HV12
      go_upto_region 10 with fail
      have h58a := HB58.out
      have h58b := belowDrew HB58.out
      go_region_held3 (fun W' => W'.cell? ⟨gp, 0, none⟩ = some (.pointer (some ⟨ps 0, 0, none⟩)) ∧ W'.cell? ⟨gq, 0, none⟩ = some (.pointer (some ⟨qs 0, 0, none⟩)))
        (first | with_reducible exact HS.out _ h58a | with_reducible exact HS.out _ h58b | with_reducible exact HS.out _ hA)
        (first | (go_at_call 13; (with_reducible refine (HSHW.out _ HD.out).mono ?_); rintro e wa ⟨rfl, hba⟩; have hA : Below w5.heap.size w5 wa := (HB58.out.trans (HD.out.mono HB58.out.size)).trans (hba.mono (Nat.le_trans HB58.out.size HD.out.size))) | (go_at_call 23; (with_reducible refine (HAQ.out _ hA).mono ?_); rintro e wb ⟨rfl, rfl⟩) | (go_at_call 23; (with_reducible refine (HAP.out _ hA).mono ?_); rintro e wb ⟨rfl, rfl⟩))
      obtain ⟨wk, hwk⟩ : ∃ W, wa = W := ⟨_, rfl⟩
      rw [hwk] at hA ⊢
      clear hwk
      have HBK := Lib.hid hA
      have HBKs := Lib.hid hA.size
      have hpk := (HS.out wk hA).1
      have hw0 : Calls Try.prog 24 #[.pointer (some ⟨ps 0, 0, none⟩), .int .i64 0] wk fun e w' => ∃ v, e = .returned (.tuple #[v, .int .i64 0]) ∧ w'.ownsRow wk.heap.size 3 1 v 8 (encV (knF (Q.take 0))) ∧ Below wk.heap.size wk w' := HWP.out wk 0 hA (by omega)
      have HW0 := Lib.hid hw0
      clear hw0 hA hba h58a h58b HSHW HD HV12b HV13 HB58 hle
      go_wp2_with fail
      refine HW0.out.mono ?_
      rintro e wl ⟨v15, rfl, hv15, hbl⟩
      go_wp2_with fail
      go_loopw [15, 17] (fun v15 v17 wy => StaysRel Q nq wk v15 v17 wy) (fun _ v17 _ => nq + 1 - (intOf v17).toNat)
      case atStart => exact ⟨0, by omega, rfl, hv15, hbl⟩
      case round =>
        obtain ⟨i, hi, rfl, hrow, hby⟩ := hrel
        obtain ⟨gl, cl, rfl, -, hgl0⟩ := hrow.form (by omega)
        have hb5r := HBK.out.trans (hby.mono HBKs.out)
        have hq5 := (HS.out _ hb5r).2
        have haq := HAQ.out _ hb5r
        have HAQr := Lib.hid haq
        have HROW := Lib.hid hrow
        have HBY := Lib.hid hby
        have HB5R := Lib.hid hb5r
        have hi0 : (0 : Int) ≤ i := by omega
        clear haq hrow hby hb5r hbl hv15
        by_cases hlt : i ≤ nq
        · have hle1 : (i : Int) ≤ nq := by omega
          have hle2 : (i : Int) ≤ 1000 := by omega
          have hwi : IntKind.i64.wrap ((i : Int) + 1) = i + 1 := wrapK _ (by omega) (by omega)
          have hwq := HWQ.out _ i HB5R.out hlt
          have HWQr := Lib.hid hwq
          clear hwq
          go_wp2_with fail
          refine HAQr.out.mono ?_
          rintro e wx ⟨rfl, rfl⟩
          go_wp2_with fail
          refine HWQr.out.mono ?_
          rintro e wa2 ⟨v18, rfl, hv18, hba⟩
          have hbya := HBY.out.trans (hba.mono HBY.out.size)
          have hb5a := HBK.out.trans (hbya.mono HBKs.out)
          have hpa := (HS.out _ hb5a).1
          have hrl0 := ownsBelow HROW.out hba
          have hwa := HBY.out.size
          have HV18 := Lib.hid hv18
          have HBYA := Lib.hid hbya
          have HB5A := Lib.hid hb5a
          have HRL0 := Lib.hid hrl0
          clear hv18 hbya hb5a hrl0 hba HWQr HAQr HROW HBY hq5 hgl0
          by_cases hp : i ≤ np
          · have hwp := HWP.out _ i HB5A.out hp
            have HWPa := Lib.hid hwp
            have hle3 : (i : Int) ≤ np := by omega
            clear hwp
            go_wp2_with fail
            refine HWPa.out.mono ?_
            rintro e wn ⟨v20, rfl, hv20, hbn0⟩
            have hvn := ownsBelow HV18.out hbn0
            have hrl := ownsBelow HRL0.out hbn0
            have hbn := HBYA.out.trans (hbn0.mono HBYA.out.size)
            have hls : Lst 1 encI wn v20 (vecI (knF (Q.take i))) := Lst_of_own encI_len (l := vecI (knF (Q.take i))) hv20 rfl
            have hln : Lst 1 encI wn v18 (vecI (knF (Q.take i))) := Lst_of_own encI_len (l := vecI (knF (Q.take i))) hvn rfl
            have hint := ints_sh v18 v20 _ _ wn hln hls
            rw [decide_eq_true rfl] at hint
            have HINT := Lib.hid hint
            obtain ⟨g20, c20, rfl, -, -⟩ := hv20.form (by omega)
            clear hls hln hint hv20 HWPa hbn0
            obtain ⟨g18, c18, rfl, -, hg18⟩ := hvn.form (by omega)
            have HVN : Hid (wn.ownsRow wk.heap.size 3 1 (.slice (some ⟨g18, 0, none⟩) 8 c18) 8 (encV (knF (Q.take i)))) := Lib.hid (ownsMono hvn hwa)
            have HCN : Hid (∀ k, k < 8 → wn.cell? ⟨g18, k, none⟩ = some (.int .i64 (knF (Q.take i) k))) := Lib.hid fun k hk => rowAt hvn (encV_get _ hk)
            have HCL : Hid (∀ k, k < 8 → wn.cell? ⟨gl, k, none⟩ = some (.int .i64 (knF (Q.take (i - 1)) k))) := Lib.hid fun k hk => rowAt hrl (encV_get _ hk)
            have hgl := (ownBlock_lt hrl rfl).2
            have HBN := Lib.hid hbn
            have hb5n := HBK.out.trans (hbn.mono HBKs.out)
            have hpw := (HS.out _ hb5n).1
            have hap := HAP.out _ hb5n
            have HAPn := Lib.hid hap
            clear hvn hrl hbn hb5n hap
            clear HV18 HBYA HB5A HRL0
            go_wp2_with fail
            refine HAPn.out.mono ?_
            rintro e wx2 ⟨rfl, rfl⟩
            go_wp2_with fail
            refine HINT.out.mono ?_
            rintro e wX ⟨rfl, hXb⟩
            have hXs := hXb.size
            go_wp2_with fail
            go_loopw [22] (fun c wy => ∃ k : Nat, k ≤ 8 ∧ c = .int .i64 k ∧ Below wX.heap.size wX wy) (fun c _ => 8 - (intOf c).toNat)
            case atStart => exact ⟨0, by omega, rfl, Below.refl _ _⟩
            case round =>
              obtain ⟨k, hk, rfl, hbr⟩ := hrel
              by_cases hlt : k < 8
              · have x0 := (hbr.cell (p := ⟨g18, k, none⟩) (Nat.lt_of_lt_of_le hg18 hXs)).trans ((hXb.cell (p := ⟨g18, k, none⟩) hg18).trans (HCN.out k hlt))
                have y0 := (hbr.cell (p := ⟨gl, k, none⟩) (Nat.lt_of_lt_of_le hgl hXs)).trans ((hXb.cell (p := ⟨gl, k, none⟩) hgl).trans (HCL.out k hlt))
                have hk1 : (k : Int) < 8 := by omega
                have hk0 : (0 : Int) ≤ k := by omega
                have hwk8 : IntKind.i64.wrap ((k : Int) + 1) = k + 1 := wrapK _ (by omega) (by omega)
                have hle : ((knF (Q.take i) k : Int) < knF (Q.take (i - 1)) k) = False := by
                  have := HUP.out i k
                  simp only [eq_iff_iff, iff_false]
                  omega
                go_upto_region 23 with fail
                go_quiet (fail)
                go_wp2_with fail
                go_roundw
                case rel => exact ⟨k + 1, by omega, by go_num, belowDrewN hbr nq⟩
                case measure => simp [intOf]; omega
              · obtain rfl : k = 8 := by omega
                go_wp2_with fail
                go_roundw
                case rel => exact ⟨i + 1, by omega, by go_num, by rw [Nat.add_sub_cancel]; exact ownsBelow HVN.out (hXb.trans (hbr.mono hXs)), HBN.out.trans ((hXb.trans (hbr.mono hXs)).mono HBN.out.size)⟩
                case measure => simp [intOf]; omega
          · have hwp := HWN.out _ i HB5A.out (by omega)
            have HWPa := Lib.hid hwp
            have hle3 : ((i : Int) ≤ np) = False := by simp only [eq_iff_iff, iff_false]; omega
            clear hwp
            go_wp2_with fail
            refine HWPa.out.mono ?_
            rintro e wn ⟨rfl, rfl⟩
            obtain ⟨wn, hwn⟩ : ∃ W, W = wa2 := ⟨_, rfl⟩
            subst hwn
            have hvn := HV18.out
            have hrl := HRL0.out
            have hbn := HBYA.out
            clear HWPa
            obtain ⟨g18, c18, rfl, -, hg18⟩ := hvn.form (by omega)
            have HVN : Hid (wn.ownsRow wk.heap.size 3 1 (.slice (some ⟨g18, 0, none⟩) 8 c18) 8 (encV (knF (Q.take i)))) := Lib.hid (ownsMono hvn hwa)
            have HCN : Hid (∀ k, k < 8 → wn.cell? ⟨g18, k, none⟩ = some (.int .i64 (knF (Q.take i) k))) := Lib.hid fun k hk => rowAt hvn (encV_get _ hk)
            have HCL : Hid (∀ k, k < 8 → wn.cell? ⟨gl, k, none⟩ = some (.int .i64 (knF (Q.take (i - 1)) k))) := Lib.hid fun k hk => rowAt hrl (encV_get _ hk)
            have hgl := (ownBlock_lt hrl rfl).2
            have HBN := Lib.hid hbn
            have hb5n := HBK.out.trans (hbn.mono HBKs.out)
            have hpw := (HS.out _ hb5n).1
            have hap := HAP.out _ hb5n
            have HAPn := Lib.hid hap
            clear hvn hrl hbn hb5n hap
            clear HV18 HBYA HB5A HRL0
            go_wp2_with fail
            refine HAPn.out.mono ?_
            rintro e wx2 ⟨rfl, rfl⟩
            obtain ⟨wX, hwX⟩ : ∃ W, W = wn := ⟨_, rfl⟩
            have hXb : Below wn.heap.size wn wX := by rw [hwX]; exact Below.refl _ _
            have hXs := hXb.size
            rw [← hwX]
            clear hwX
            go_wp2_with fail
            go_loopw [22] (fun c wy => ∃ k : Nat, k ≤ 8 ∧ c = .int .i64 k ∧ Below wX.heap.size wX wy) (fun c _ => 8 - (intOf c).toNat)
            case atStart => exact ⟨0, by omega, rfl, Below.refl _ _⟩
            case round =>
              obtain ⟨k, hk, rfl, hbr⟩ := hrel
              by_cases hlt : k < 8
              · have x0 := (hbr.cell (p := ⟨g18, k, none⟩) (Nat.lt_of_lt_of_le hg18 hXs)).trans ((hXb.cell (p := ⟨g18, k, none⟩) hg18).trans (HCN.out k hlt))
                have y0 := (hbr.cell (p := ⟨gl, k, none⟩) (Nat.lt_of_lt_of_le hgl hXs)).trans ((hXb.cell (p := ⟨gl, k, none⟩) hgl).trans (HCL.out k hlt))
                have hk1 : (k : Int) < 8 := by omega
                have hk0 : (0 : Int) ≤ k := by omega
                have hwk8 : IntKind.i64.wrap ((k : Int) + 1) = k + 1 := wrapK _ (by omega) (by omega)
                have hle : ((knF (Q.take i) k : Int) < knF (Q.take (i - 1)) k) = False := by
                  have := HUP.out i k
                  simp only [eq_iff_iff, iff_false]
                  omega
                go_upto_region 23 with fail
                go_quiet (fail)
                go_wp2_with fail
                go_roundw
                case rel => exact ⟨k + 1, by omega, by go_num, belowDrewN hbr nq⟩
                case measure => simp [intOf]; omega
              · obtain rfl : k = 8 := by omega
                go_wp2_with fail
                go_roundw
                case rel => exact ⟨i + 1, by omega, by go_num, by rw [Nat.add_sub_cancel]; exact ownsBelow HVN.out (hXb.trans (hbr.mono hXs)), HBN.out.trans ((hXb.trans (hbr.mono hXs)).mono HBN.out.size)⟩
                case measure => simp [intOf]; omega
        · have hle1 : ((i : Int) ≤ nq) = False := by simp only [eq_iff_iff, iff_false]; omega
          have hl : Lst 1 encI wr (.slice (some ⟨gl, 0, none⟩) 8 cl) (vecI (knF Q)) := by
            have h1 := HROW.out
            rw [show i - 1 = nq by omega, HALL.out] at h1
            exact Lst_of_own encI_len (l := vecI (knF Q)) h1 rfl
          have hkq := HKQ.out _ HB5R.out
          have HKQr := Lib.hid hkq
          have HLr := Lib.hid hl
          clear hl hkq hlt hi HWQ HWP HWN HUP
          go_wp2_with fail
          refine HAQr.out.mono ?_
          rintro e wx ⟨rfl, rfl⟩
          go_wp2_with fail
          refine HKQr.out.mono ?_
          rintro e wy ⟨vk, rfl, hvk, hbk⟩
          have hint := ints_sh _ vk _ _ wy (HLr.out.below hbk) hvk
          rw [decide_eq_true rfl] at hint
          have HINT := Lib.hid hint
          have HBYk := Lib.hid ((HBK.out.trans (HBY.out.mono HBKs.out)).trans (hbk.mono HB5R.out.size))
          clear hint hvk hbk
          go_wp2_with fail
          refine HINT.out.mono ?_
          rintro e wz ⟨rfl, hbz⟩
          go_wp2_with fail
          refine (awake_sh wz).mono ?_
          rintro e wv ⟨rfl, hbv⟩
          go_wp2_with fail
          go_ret
          have h1 := HB5.out.trans (HBYk.out.mono HB5.out.size)
          have h2 := h1.trans (hbz.mono h1.size)
          exact ⟨rfl, h2.trans (hbv.mono h2.size)⟩
end Go.Proofs.Ytngigogaiheckaa
