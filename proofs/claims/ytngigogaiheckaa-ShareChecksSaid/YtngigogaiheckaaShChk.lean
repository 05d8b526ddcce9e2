/- share: ShareChecks: whether a statement is valid, which pictures there are, and the Join of vectors. -/
import Derived.Test.YtngigogaiheckaaShAwake
import Derived.Test.YtngigogaiheckaaShRjoin
import Derived.Deep.RegionWith
namespace Go.Proofs.Ytngigogaiheckaa
open Go.RowKit Go.Shelf Go.Lib Go.Maps

theorem inB_no {n lo hi : Int} (h : inB n lo hi = false) : n < lo ∨ (lo ≤ n ∧ hi < n) := by
  simp only [inB, Bool.and_eq_false_iff, decide_eq_false_iff_not] at h
  omega
theorem inB_yes {n lo hi : Int} (h : inB n lo hi = true) : lo ≤ n ∧ n ≤ hi := by
  simpa [inB] using h
set_option maxRecDepth 100000 in
set_option maxHeartbeats 20000000 in
theorem checks_sh (s : Sd) (cen : Int) (va vb : Value) (la lb : List Int) (w : World) (ha : Lst 1 encI w va la) (hb : Lst 1 encI w vb lb) :
    Calls Try.prog 5 #[valSd s, .int .i64 cen, va, vb] w fun e w' => e = .returned (.bool true) ∧ Below w.heap.size w w' := by
  have HAw : Hid (∀ W, Below w.heap.size w W → Calls Try.prog 9 #[] W fun e w' => e = .returned (.bool true) ∧ Below w.heap.size w w') := Lib.hid fun W hW =>
    (awake_sh W).mono fun _ _ ⟨h1, h2⟩ => ⟨h1, hW.trans (h2.mono hW.size)⟩
  obtain ⟨er, lm, hJ, hR⟩ : ∃ (er : Int) (lm : List Int), (∀ W, Below w.heap.size w W → Calls Try.prog 19 #[va, vb] W fun e w' => ∃ v, e = .returned (.tuple #[v, .int .i64 er]) ∧ Lst 1 encI w' v lm ∧ Below W.heap.size W w') ∧
      (∀ W, Below w.heap.size w W → Calls Try.prog 20 #[va, vb] W fun e w' => ∃ v, e = .returned (.tuple #[v, .int .i64 er]) ∧ Lst 1 encI w' v lm ∧ Below W.heap.size W w') := by
    cases q : (vecOK la && vecOK lb) with
    | false =>
      refine ⟨2, [], fun W hW => ?_, fun W hW => ?_⟩
      · exact (join_bad va vb la lb W (ha.below hW) (hb.below hW) q).mono fun _ _ ⟨h1, h2⟩ => ⟨_, h1, Lst.nil _, h2⟩
      · exact (rjoin_bad va vb la lb W (ha.below hW) (hb.below hW) q).mono fun _ _ ⟨h1, h2⟩ => ⟨_, h1, Lst.nil _, by rw [← h2]; exact Below.refl _ _⟩
    | true =>
      rw [Bool.and_eq_true] at q
      refine ⟨0, vecI (maxV (vecN la) (vecN lb)), fun W hW => ?_, fun W hW => ?_⟩
      · exact (join_ok va vb la lb W (ha.below hW) (hb.below hW) q.1 q.2).mono fun _ _ ⟨v, h1, h2, h3⟩ => ⟨v, h1, Lst_of_own encI_len (l := vecI (maxV (vecN la) (vecN lb))) h2 rfl, h3⟩
      · exact (rjoin_ok va vb la lb W (ha.below hW) (hb.below hW) q.1 q.2).mono fun _ _ ⟨v, h1, h2, h3⟩ => ⟨v, h1, Lst_of_own encI_len (l := vecI (maxV (vecN la) (vecN lb))) h2 rfl, h3⟩
  obtain ⟨A, ca, rfl, -, -, -⟩ := id ha
  obtain ⟨B, cb, rfl, -, -, -⟩ := id hb
  clear ha hb
  obtain ⟨na, hna⟩ : ∃ n, la.length = n := ⟨_, rfl⟩
  obtain ⟨nb, hnb⟩ : ∃ n, lb.length = n := ⟨_, rfl⟩
  rw [hna, hnb] at hJ hR ⊢
  clear hna hnb
  have HJ := Lib.hid hJ
  have HR := Lib.hid hR
  clear hJ hR
  have hnew := fun h W => new_sh cen h W
  have hnewb := fun h W => new_bad cen h W
  have HN := Lib.hid hnew
  have HNB := Lib.hid hnewb
  clear hnew hnewb
  obtain ⟨q, hq⟩ : ∃ q, saidB s = q := ⟨_, rfl⟩
  have hc1 := fun W => check_sh s W
  have hc2 := fun hk hv W => rcheck_sh s hk hv W
  rw [hq] at hc1 hc2
  have hgr := fun v W h => great2_sh v [s] W h
  have hgi : ∀ b, (b = false → ∀ t, t ∈ [s] → t.key.size ≤ 100 ∧ t.val.size ≤ 300) → b = false → s.key.size ≤ 1000 ∧ s.val.size ≤ 1000 := fun b h hb => by
    have := h hb s (by simp)
    omega
  obtain ⟨c, n, key, val, time, trust, back⟩ := s
  dsimp only [valSd] at *
  have hlitE : ∀ W : World, Lst 7 encSd (W.alloc (.cells #[.int .i64 c, .int .i64 n, .string key, .string val, .int .i64 time, .int .i64 trust, .int .i64 back] 38)) (.slice (some ⟨W.heap.size, 0, none⟩) 1 1) [(⟨c, n, key, val, time, trust, back⟩ : Sd)] := fun W =>
    Lst_lit encSd_len W W.heap.size 1 rfl #[.int .i64 c, .int .i64 n, .string key, .string val, .int .i64 time, .int .i64 trust, .int .i64 back] _ 38 rfl rfl (by unfold maxLen; omega)
  have HL := Lib.hid hlitE
  have HG := Lib.hid hgr
  have HGI := Lib.hid hgi
  have HC := Lib.hid hc1
  have HC2 := Lib.hid hc2
  clear hlitE hgr hgi hc1 hc2 hq
  go_enter Try.func5, Try.ntmps5
  go_wp2_with fail
  obtain ⟨W1, hW1⟩ : ∃ W, w.alloc (.cells #[.int .i64 c, .int .i64 n, .string key, .string val, .int .i64 time, .int .i64 trust, .int .i64 back] 38) = W := ⟨_, rfl⟩
  have hr : W1.heap[w.heap.size]? = some (.cells #[.int .i64 c, .int .i64 n, .string key, .string val, .int .i64 time, .int .i64 trust, .int .i64 back] 38 (0, 0)) := by
    rw [← hW1]
    exact heap_alloc_new w _
  have hb1 : Below w.heap.size w W1 := by
    rw [← hW1]
    exact (Below.refl _ _).alloc (Nat.le_refl _) _
  have hs1 : W1.heap.size = w.heap.size + 1 := by rw [← hW1]; simp
  rw [hW1]
  obtain ⟨X, hX⟩ : ∃ X, w.heap.size = X := ⟨_, rfl⟩
  rw [hX] at hr hb1 hs1 ⊢
  have hlit := HL.out W1
  rw [hs1] at hlit
  obtain ⟨W2, hW2⟩ : ∃ W, W1.alloc (.cells #[.int .i64 c, .int .i64 n, .string key, .string val, .int .i64 time, .int .i64 trust, .int .i64 back] 38) = W := ⟨_, rfl⟩
  have hX1 : X < W1.heap.size := by omega
  have hr2 : W2.heap[X]? = some (.cells #[.int .i64 c, .int .i64 n, .string key, .string val, .int .i64 time, .int .i64 trust, .int .i64 back] 38 (0, 0)) := by
    rw [← hW2]
    exact (Below.heap_alloc W1 _ X hX1).trans hr
  have hb2 : Below X w W2 := by
    rw [← hW2]
    exact hb1.alloc (by omega) _
  have hs2 : X < W2.heap.size := (Array.getElem?_eq_some_iff.1 hr2).1
  rw [hW2] at hlit ⊢
  have HB := Lib.hid hb2
  have HRB := Lib.hid hr2
  clear hW1 hW2 hr hb1 hs1 hX1 hb2 hr2 HL W1
  rw [hX] at HAw HJ HR
  have HX := Lib.hid hX
  clear hX
  have hg := HG.out _ _ hlit
  clear hlit HG
  refine hg.mono ?_
  rintro e w1 ⟨⟨b, rfl, hbs⟩, rfl⟩
  have HBS := Lib.hid (HGI.out b hbs)
  clear hbs HGI hg
  cases b with
  | true =>
    go_wp2_with fail
    refine (HAw.out _ HB.out).mono ?_
    rintro e w2 ⟨rfl, hb2⟩
    go_wp2_with fail
    go_ret
    rw [HX.out]
    exact ⟨rfl, hb2⟩
  | false =>
    by_cases ha20 : 20 < na
    · have hc : ((20 : Int) < na) = True := by simp only [eq_iff_iff, iff_true]; omega
      go_wp2_with fail
      refine (HAw.out _ HB.out).mono ?_
      rintro e w2 ⟨rfl, hb2⟩
      go_wp2_with fail
      go_ret
      rw [HX.out]
      exact ⟨rfl, hb2⟩
    · have hc : ((20 : Int) < na) = False := by simp only [eq_iff_iff, iff_false]; omega
      by_cases hb20 : 20 < nb
      · have hd : ((20 : Int) < nb) = True := by simp only [eq_iff_iff, iff_true]; omega
        go_wp2_with fail
        refine (HAw.out _ HB.out).mono ?_
        rintro e w2 ⟨rfl, hb2⟩
        go_wp2_with fail
        go_ret
        rw [HX.out]
        exact ⟨rfl, hb2⟩
      · have hd : ((20 : Int) < nb) = False := by simp only [eq_iff_iff, iff_false]; omega
        obtain ⟨hks, hvs⟩ := HBS.out rfl
        have hc2 := fun W => HC2.out hks hvs W
        have HC2' := Lib.hid hc2
        clear HC2 hc2 hks hvs HBS
        obtain ⟨pv, ne, ok, hcase, hN⟩ : ∃ (pv : Option Addr) (ne : Int) (ok : Bool), ((ok = true ∧ (∃ p, pv = some p) ∧ ne = 0 ∧ 1 ≤ cen ∧ cen ≤ 8) ∨ (ok = false ∧ pv = none ∧ ne = 4 ∧ (cen < 1 ∨ (1 ≤ cen ∧ 8 < cen)))) ∧
            ∀ W, Calls Try.prog 18 #[.int .i64 cen] W fun e w' => ∃ pv' : Option Addr, e = .returned (.tuple #[.pointer pv', .int .i64 ne]) ∧ (pv'.isSome = pv.isSome) ∧ Below W.heap.size W w' := by
          cases q2 : inB cen 1 8 with
          | true =>
            have := inB_yes q2
            exact ⟨some ⟨0, 0, none⟩, 0, true, .inl ⟨rfl, ⟨_, rfl⟩, rfl, this.1, this.2⟩, fun W => (HN.out q2 W).mono fun _ _ ⟨p, h1, _, h3⟩ => ⟨_, h1, rfl, h3⟩⟩
          | false =>
            exact ⟨none, 4, false, .inr ⟨rfl, rfl, rfl, inB_no q2⟩, fun W => (HNB.out q2 W).mono fun _ _ ⟨h1, h2⟩ => ⟨_, h1, rfl, by rw [← h2]; exact Below.refl _ _⟩⟩
        have HNN := Lib.hid hN
        clear hN HN HNB
        go_wp2_with fail
        refine (HNN.out _).mono ?_
        rintro e w3 ⟨pv', rfl, hpv, hb3⟩
        have hb3w : Below X w w3 := HB.out.trans (hb3.mono (Nat.le_of_lt hs2))
        have hr3 := (hb3.block X hs2).trans HRB.out
        have hs3 : X < w3.heap.size := (Array.getElem?_eq_some_iff.1 hr3).1
        have HB3 := Lib.hid hb3w
        have HR3 := Lib.hid hr3
        clear hb3 hb3w hr3 HB HRB hs2 hc hd ha20 hb20 HNN
        have hcase2 : (∃ p, pv' = some p ∧ ne = 0 ∧ 1 ≤ cen ∧ cen ≤ 8) ∨ (pv' = none ∧ ne = 4 ∧ cen < 1) ∨ (pv' = none ∧ ne = 4 ∧ 1 ≤ cen ∧ 8 < cen) := by
          rcases hcase with ⟨-, ⟨p, rfl⟩, h1, h2⟩ | ⟨-, rfl, h1, h2⟩
          · obtain ⟨p', rfl⟩ := Option.isSome_iff_exists.1 (by rw [hpv]; rfl : pv'.isSome = true)
            exact .inl ⟨p', rfl, h1, h2⟩
          · have : pv' = none := by cases pv' <;> simp_all
            rcases h2 with h2 | h2
            · exact .inr (.inl ⟨this, h1, h2⟩)
            · exact .inr (.inr ⟨this, h1, h2⟩)
        clear hcase hpv
        have hcase3 : (∃ p, pv' = some p ∧ ne = 0 ∧ 1 ≤ cen ∧ cen ≤ 8) ∨ (pv' = none ∧ ne = 4 ∧ ((1 : Int) ≤ cen) = False) ∨ (pv' = none ∧ ne = 4 ∧ 1 ≤ cen ∧ (cen ≤ 8) = False) := by
          simp only [eq_iff_iff, iff_false, Int.not_le]
          exact hcase2
        clear hcase2
        rcases hcase3 with ⟨p, rfl, rfl, g1, g2⟩ | ⟨rfl, rfl, g1⟩ | ⟨rfl, rfl, g1, g2⟩
        · go_wp2_with fail
          refine (HJ.out _ HB3.out).mono ?_
          rintro e w4 ⟨v4, rfl, hv4, hb4⟩
          have hb4w : Below X w w4 := HB3.out.trans (hb4.mono (Nat.le_of_lt hs3))
          have hr4 := (hb4.block X hs3).trans HR3.out
          have hs4 : X < w4.heap.size := (Array.getElem?_eq_some_iff.1 hr4).1
          have HB4 := Lib.hid hb4w
          have HR4 := Lib.hid hr4
          clear hb4 hb4w hr4
          go_wp2_with fail
          refine (HR.out _ HB4.out).mono ?_
          rintro e w5 ⟨v5, rfl, hv5, hb5⟩
          have hv4 := hv4.below hb5
          have hb5w : Below X w w5 := HB4.out.trans (hb5.mono (Nat.le_of_lt hs4))
          have hr5 := (hb5.block X hs4).trans HR4.out
          have hs5 : X < w5.heap.size := (Array.getElem?_eq_some_iff.1 hr5).1
          have HB5 := Lib.hid hb5w
          have HR5 := Lib.hid hr5
          clear hb5 hb5w hr5 HB4 HR4 hs4 HB3 HR3 hs3
          have HI := Lib.hid (fun (W : World) (hW : Below w5.heap.size w5 W) => ints_sh v4 v5 lm lm W (hv4.below hW) (hv5.below hW))
          simp only [decide_true] at HI
          clear hv4 hv5
          have HS : Hid (∀ W' : World, W'.heap[X]? = w5.heap[X]? → W'.cell? ⟨X, 0, none⟩ = some (.int .i64 c) ∧ W'.cell? ⟨X, 1, none⟩ = some (.int .i64 n) ∧ W'.cell? ⟨X, 2, none⟩ = some (.string key) ∧ W'.cell? ⟨X, 3, none⟩ = some (.string val) ∧ W'.cell? ⟨X, 4, none⟩ = some (.int .i64 time) ∧ W'.cell? ⟨X, 5, none⟩ = some (.int .i64 trust) ∧ W'.cell? ⟨X, 6, none⟩ = some (.int .i64 back)) := Lib.hid fun W' hW' => by
            have h := hW'.trans HR5.out
            exact ⟨by simp [World.cell?, h], by simp [World.cell?, h], by simp [World.cell?, h], by simp [World.cell?, h], by simp [World.cell?, h], by simp [World.cell?, h], by simp [World.cell?, h]⟩
          have HD0 := Lib.hid (belowDrew (Below.refl w5.heap.size w5))
          have HA2 := Lib.hid (fun W => awake_sh W)
          go_upto_region 7 with fail
          refine wp_region_noPanic ?_
          refine wp_region_held_drew (S := (fun W' => W'.cell? ⟨X, 0, none⟩ = some (.int .i64 c) ∧ W'.cell? ⟨X, 1, none⟩ = some (.int .i64 n) ∧ W'.cell? ⟨X, 2, none⟩ = some (.string key) ∧ W'.cell? ⟨X, 3, none⟩ = some (.string val) ∧ W'.cell? ⟨X, 4, none⟩ = some (.int .i64 time) ∧ W'.cell? ⟨X, 5, none⟩ = some (.int .i64 trust) ∧ W'.cell? ⟨X, 6, none⟩ = some (.int .i64 back))) (by kernel_rfl) (HS.out _ rfl) (fun hHeld => ?_)
          refine wpAnyH_take (i := 0) (oi := ({ dst := some 53, op := Op.load 38 (Operand.tmp 4), type := 38, pos := "law.go:55", after := #[], guard := none } : Oper)) (v := ?_) rfl (by kernel_rfl) (by kernel_rfl) (by kernel_rfl) (fun _ _ _ h => h) (Or.inl ⟨by rfl, ?_⟩) (by assumption) ?_
          rotate_left
          · ((intro w hSw; (try dsimp only at hSw); go_simp); try with_reducible rfl)
          (try simp only [Act.put, List.setIfInBounds_toArray, List.set_cons_zero, List.set_cons_succ])
          refine wpAnyH_take (i := 2) (oi := ({ dst := some 55, op := Op.load 38 (Operand.tmp 4), type := 38, pos := "law.go:55", after := #[], guard := none } : Oper)) (v := ?_) rfl (by kernel_rfl) (by kernel_rfl) (by kernel_rfl) (fun _ _ _ h => h) (Or.inl ⟨by rfl, ?_⟩) (by assumption) ?_
          rotate_left
          · ((intro w hSw; (try dsimp only at hSw); go_simp); try with_reducible rfl)
          (try simp only [Act.put, List.setIfInBounds_toArray, List.set_cons_zero, List.set_cons_succ])
          refine wpAnyH_ready (rs := [1]) (by kernel_rfl) (by simp) (AllReadyH.cons (o := ({ dst := some 54, op := Op.call { callee := Callee.value (Operand.func 21), args := #[Operand.tmp 53], argTypes := #[38] }, type := 4, pos := "law.go:55", after := #[{ on := 0, ground := Ground.data }], guard := none } : Oper)) rfl (fun K hK => ?_) AllReadyH.nil)
          go_simp
          (go_at_call 21; (with_reducible refine (HC.out _).mono ?_); rintro e wa ⟨rfl, hba⟩; have hbA : Below w5.heap.size w5 wa := HD0.out.trans hba)
          refine hK.out _ _ (HS.out _ (hbA.block X hs5)) (fun hHeld => ?_)
          clear hK K
          (try simp only [Act.put, List.setIfInBounds_toArray, List.set_cons_zero, List.set_cons_succ])
          refine wpAnyH_ready (rs := [3]) (by kernel_rfl) (by simp) (AllReadyH.cons (o := ({ dst := some 56, op := Op.call { callee := Callee.value (Operand.func 22), args := #[Operand.tmp 55], argTypes := #[38] }, type := 4, pos := "law.go:55", after := #[{ on := 2, ground := Ground.data }, { on := 1, ground := Ground.chain }], guard := none } : Oper)) rfl (fun K hK => ?_) AllReadyH.nil)
          go_simp
          (go_at_call 22; (with_reducible refine (HC2'.out _).mono ?_); rintro e wb ⟨rfl, hbb⟩; have hbB : Below w5.heap.size w5 wb := hbA.trans (hbb.mono hbA.size))
          refine hK.out _ _ (HS.out _ (hbB.block X hs5)) (fun hHeld => ?_)
          clear hK K
          (try simp only [Act.put, List.setIfInBounds_toArray, List.set_cons_zero, List.set_cons_succ])
          refine wpAnyH_take (i := 4) (oi := ({ dst := some 57, op := Op.binOp BinOp.eql 4 (Operand.tmp 54) (Operand.tmp 56) 4, type := 4, pos := "law.go:55", after := #[{ on := 1, ground := Ground.data }, { on := 3, ground := Ground.data }], guard := none } : Oper)) (v := ?_) rfl (by kernel_rfl) (by kernel_rfl) (by kernel_rfl) (fun _ _ _ h => h) (Or.inl ⟨by rfl, ?_⟩) (by assumption) ?_
          rotate_left
          · ((intro w hSw; (try dsimp only at hSw); go_simp); try with_reducible rfl)
          (try simp only [Act.put, List.setIfInBounds_toArray, List.set_cons_zero, List.set_cons_succ])
          refine wpAnyH_take (i := 5) (oi := ({ dst := some 58, op := Op.move (Operand.tmp 57), type := 4, pos := "law.go:55", after := #[{ on := 4, ground := Ground.data }, { on := 3, ground := Ground.chain }], guard := none } : Oper)) (v := ?_) rfl (by kernel_rfl) (by kernel_rfl) (by kernel_rfl) (fun _ _ _ h => h) (Or.inl ⟨by rfl, ?_⟩) (by assumption) ?_
          rotate_left
          · ((intro w hSw; (try dsimp only at hSw); go_simp); try with_reducible rfl)
          (try simp only [Act.put, List.setIfInBounds_toArray, List.set_cons_zero, List.set_cons_succ])
          refine wpAnyH_take (i := 6) (oi := ({ dst := some 59, op := Op.move (Operand.tmp 9), type := 30, pos := "law.go:55", after := #[{ on := 5, ground := Ground.guard }], guard := some (5, true) } : Oper)) (v := ?_) rfl (by kernel_rfl) (by kernel_rfl) (by kernel_rfl) (fun _ _ _ h => h) (Or.inl ⟨by rfl, ?_⟩) (by assumption) ?_
          rotate_left
          · ((intro w hSw; (try dsimp only at hSw); go_simp); try with_reducible rfl)
          (try simp only [Act.put, List.setIfInBounds_toArray, List.set_cons_zero, List.set_cons_succ])
          refine wpAnyH_take (i := 7) (oi := ({ dst := some 60, op := Op.binOp BinOp.neq 30 (Operand.tmp 59) (Operand.const (Value.pointer none)) 30, type := 4, pos := "law.go:55", after := #[{ on := 6, ground := Ground.data }, { on := 5, ground := Ground.guard }], guard := some (5, true) } : Oper)) (v := ?_) rfl (by kernel_rfl) (by kernel_rfl) (by kernel_rfl) (fun _ _ _ h => h) (Or.inl ⟨by rfl, ?_⟩) (by assumption) ?_
          rotate_left
          · ((intro w hSw; (try dsimp only at hSw); go_simp); try with_reducible rfl)
          (try simp only [Act.put, List.setIfInBounds_toArray, List.set_cons_zero, List.set_cons_succ])
          refine wpAnyH_take (i := 8) (oi := ({ dst := some 61, op := Op.move (Operand.tmp 11), type := 4, pos := "law.go:55", after := #[{ on := 5, ground := Ground.guard }], guard := some (5, true) } : Oper)) (v := ?_) rfl (by kernel_rfl) (by kernel_rfl) (by kernel_rfl) (fun _ _ _ h => h) (Or.inl ⟨by rfl, ?_⟩) (by assumption) ?_
          rotate_left
          · ((intro w hSw; (try dsimp only at hSw); go_simp); try with_reducible rfl)
          (try simp only [Act.put, List.setIfInBounds_toArray, List.set_cons_zero, List.set_cons_succ])
          refine wpAnyH_take (i := 9) (oi := ({ dst := some 62, op := Op.binOp BinOp.eql 4 (Operand.tmp 60) (Operand.tmp 61) 4, type := 4, pos := "law.go:55", after := #[{ on := 7, ground := Ground.data }, { on := 8, ground := Ground.data }, { on := 5, ground := Ground.guard }], guard := some (5, true) } : Oper)) (v := ?_) rfl (by kernel_rfl) (by kernel_rfl) (by kernel_rfl) (fun _ _ _ h => h) (Or.inl ⟨by rfl, ?_⟩) (by assumption) ?_
          rotate_left
          · ((intro w hSw; (try dsimp only at hSw); go_simp); try with_reducible rfl)
          (try simp only [Act.put, List.setIfInBounds_toArray, List.set_cons_zero, List.set_cons_succ])
          refine wpAnyH_take (i := 10) (oi := ({ dst := some 63, op := Op.pick (Operand.tmp 58) (Operand.tmp 62) (Operand.const (Value.bool false)), type := 4, pos := "law.go:55", after := #[{ on := 5, ground := Ground.data }, { on := 9, ground := Ground.data }], guard := none } : Oper)) (v := ?_) rfl (by kernel_rfl) (by kernel_rfl) (by kernel_rfl) (fun _ _ _ h => h) (Or.inl ⟨by rfl, ?_⟩) (by assumption) ?_
          rotate_left
          · ((intro w hSw; (try dsimp only at hSw); go_simp); try with_reducible rfl)
          (try simp only [Act.put, List.setIfInBounds_toArray, List.set_cons_zero, List.set_cons_succ])
          refine wpAnyH_take (i := 11) (oi := ({ dst := some 64, op := Op.move (Operand.tmp 63), type := 4, pos := "law.go:55", after := #[{ on := 10, ground := Ground.data }, { on := 5, ground := Ground.chain }], guard := none } : Oper)) (v := ?_) rfl (by kernel_rfl) (by kernel_rfl) (by kernel_rfl) (fun _ _ _ h => h) (Or.inl ⟨by rfl, ?_⟩) (by assumption) ?_
          rotate_left
          · ((intro w hSw; (try dsimp only at hSw); go_simp); try with_reducible rfl)
          (try simp only [Act.put, List.setIfInBounds_toArray, List.set_cons_zero, List.set_cons_succ])
          refine wpAnyH_take (i := 12) (oi := ({ dst := some 65, op := Op.move (Operand.tmp 10), type := 33, pos := "law.go:55", after := #[{ on := 11, ground := Ground.guard }], guard := some (11, true) } : Oper)) (v := ?_) rfl (by kernel_rfl) (by kernel_rfl) (by kernel_rfl) (fun _ _ _ h => h) (Or.inl ⟨by rfl, ?_⟩) (by assumption) ?_
          rotate_left
          · ((intro w hSw; (try dsimp only at hSw); go_simp); try with_reducible rfl)
          (try simp only [Act.put, List.setIfInBounds_toArray, List.set_cons_zero, List.set_cons_succ])
          refine wpAnyH_take (i := 13) (oi := ({ dst := some 66, op := Op.binOp BinOp.eql 33 (Operand.tmp 65) (Operand.const (Value.int IntKind.i64 0)) 33, type := 4, pos := "law.go:55", after := #[{ on := 12, ground := Ground.data }, { on := 11, ground := Ground.guard }], guard := some (11, true) } : Oper)) (v := ?_) rfl (by kernel_rfl) (by kernel_rfl) (by kernel_rfl) (fun _ _ _ h => h) (Or.inl ⟨by rfl, ?_⟩) (by assumption) ?_
          rotate_left
          · ((intro w hSw; (try dsimp only at hSw); go_simp); try with_reducible rfl)
          (try simp only [Act.put, List.setIfInBounds_toArray, List.set_cons_zero, List.set_cons_succ])
          refine wpAnyH_take (i := 14) (oi := ({ dst := some 67, op := Op.move (Operand.tmp 11), type := 4, pos := "law.go:55", after := #[{ on := 11, ground := Ground.guard }], guard := some (11, true) } : Oper)) (v := ?_) rfl (by kernel_rfl) (by kernel_rfl) (by kernel_rfl) (fun _ _ _ h => h) (Or.inl ⟨by rfl, ?_⟩) (by assumption) ?_
          rotate_left
          · ((intro w hSw; (try dsimp only at hSw); go_simp); try with_reducible rfl)
          (try simp only [Act.put, List.setIfInBounds_toArray, List.set_cons_zero, List.set_cons_succ])
          refine wpAnyH_take (i := 15) (oi := ({ dst := some 68, op := Op.binOp BinOp.eql 4 (Operand.tmp 66) (Operand.tmp 67) 4, type := 4, pos := "law.go:55", after := #[{ on := 13, ground := Ground.data }, { on := 14, ground := Ground.data }, { on := 11, ground := Ground.guard }], guard := some (11, true) } : Oper)) (v := ?_) rfl (by kernel_rfl) (by kernel_rfl) (by kernel_rfl) (fun _ _ _ h => h) (Or.inl ⟨by rfl, ?_⟩) (by assumption) ?_
          rotate_left
          · ((intro w hSw; (try dsimp only at hSw); go_simp); try with_reducible rfl)
          (try simp only [Act.put, List.setIfInBounds_toArray, List.set_cons_zero, List.set_cons_succ])
          refine wpAnyH_take (i := 16) (oi := ({ dst := some 69, op := Op.pick (Operand.tmp 64) (Operand.tmp 68) (Operand.const (Value.bool false)), type := 4, pos := "law.go:55", after := #[{ on := 11, ground := Ground.data }, { on := 15, ground := Ground.data }], guard := none } : Oper)) (v := ?_) rfl (by kernel_rfl) (by kernel_rfl) (by kernel_rfl) (fun _ _ _ h => h) (Or.inl ⟨by rfl, ?_⟩) (by assumption) ?_
          rotate_left
          · ((intro w hSw; (try dsimp only at hSw); go_simp); try with_reducible rfl)
          (try simp only [Act.put, List.setIfInBounds_toArray, List.set_cons_zero, List.set_cons_succ])
          refine wpAnyH_take (i := 17) (oi := ({ dst := some 70, op := Op.move (Operand.tmp 69), type := 4, pos := "law.go:55", after := #[{ on := 16, ground := Ground.data }, { on := 11, ground := Ground.chain }], guard := none } : Oper)) (v := ?_) rfl (by kernel_rfl) (by kernel_rfl) (by kernel_rfl) (fun _ _ _ h => h) (Or.inl ⟨by rfl, ?_⟩) (by assumption) ?_
          rotate_left
          · ((intro w hSw; (try dsimp only at hSw); go_simp); try with_reducible rfl)
          (try simp only [Act.put, List.setIfInBounds_toArray, List.set_cons_zero, List.set_cons_succ])
          refine wpAnyH_take (i := 18) (oi := ({ dst := some 71, op := Op.move (Operand.tmp 10), type := 33, pos := "law.go:55", after := #[{ on := 17, ground := Ground.guard }], guard := some (17, true) } : Oper)) (v := ?_) rfl (by kernel_rfl) (by kernel_rfl) (by kernel_rfl) (fun _ _ _ h => h) (Or.inl ⟨by rfl, ?_⟩) (by assumption) ?_
          rotate_left
          · ((intro w hSw; (try dsimp only at hSw); go_simp); try with_reducible rfl)
          (try simp only [Act.put, List.setIfInBounds_toArray, List.set_cons_zero, List.set_cons_succ])
          refine wpAnyH_take (i := 19) (oi := ({ dst := some 72, op := Op.binOp BinOp.eql 33 (Operand.tmp 71) (Operand.const (Value.int IntKind.i64 0)) 33, type := 4, pos := "law.go:55", after := #[{ on := 18, ground := Ground.data }, { on := 17, ground := Ground.guard }], guard := some (17, true) } : Oper)) (v := ?_) rfl (by kernel_rfl) (by kernel_rfl) (by kernel_rfl) (fun _ _ _ h => h) (Or.inl ⟨by rfl, ?_⟩) (by assumption) ?_
          rotate_left
          · ((intro w hSw; (try dsimp only at hSw); go_simp); try with_reducible rfl)
          (try simp only [Act.put, List.setIfInBounds_toArray, List.set_cons_zero, List.set_cons_succ])
          refine wpAnyH_take (i := 20) (oi := ({ dst := some 73, op := Op.move (Operand.tmp 72), type := 4, pos := "law.go:55", after := #[{ on := 19, ground := Ground.data }, { on := 17, ground := Ground.chain }, { on := 17, ground := Ground.guard }], guard := some (17, true) } : Oper)) (v := ?_) rfl (by kernel_rfl) (by kernel_rfl) (by kernel_rfl) (fun _ _ _ h => h) (Or.inl ⟨by rfl, ?_⟩) (by assumption) ?_
          rotate_left
          · ((intro w hSw; (try dsimp only at hSw); go_simp); try with_reducible rfl)
          (try simp only [Act.put, List.setIfInBounds_toArray, List.set_cons_zero, List.set_cons_succ])
          refine wpAnyH_take (i := 21) (oi := ({ dst := some 74, op := Op.move (Operand.tmp 10), type := 33, pos := "law.go:55", after := #[{ on := 20, ground := Ground.guard }], guard := some (20, false) } : Oper)) (v := undef) rfl (by kernel_rfl) (by kernel_rfl) (by kernel_rfl) (fun _ _ _ h => h) (Or.inr ⟨by rfl, rfl⟩) (by assumption) ?_
          (try simp only [Act.put, List.setIfInBounds_toArray, List.set_cons_zero, List.set_cons_succ])
          refine wpAnyH_take (i := 22) (oi := ({ dst := some 75, op := Op.binOp BinOp.eql 33 (Operand.tmp 74) (Operand.const (Value.int IntKind.i64 4)) 33, type := 4, pos := "law.go:55", after := #[{ on := 21, ground := Ground.data }, { on := 20, ground := Ground.guard }], guard := some (20, false) } : Oper)) (v := undef) rfl (by kernel_rfl) (by kernel_rfl) (by kernel_rfl) (fun _ _ _ h => h) (Or.inr ⟨by rfl, rfl⟩) (by assumption) ?_
          (try simp only [Act.put, List.setIfInBounds_toArray, List.set_cons_zero, List.set_cons_succ])
          refine wpAnyH_take (i := 23) (oi := ({ dst := some 76, op := Op.pick (Operand.tmp 73) (Operand.const (Value.bool true)) (Operand.tmp 75), type := 4, pos := "law.go:55", after := #[{ on := 20, ground := Ground.data }, { on := 22, ground := Ground.data }, { on := 17, ground := Ground.guard }], guard := some (17, true) } : Oper)) (v := ?_) rfl (by kernel_rfl) (by kernel_rfl) (by kernel_rfl) (fun _ _ _ h => h) (Or.inl ⟨by rfl, ?_⟩) (by assumption) ?_
          rotate_left
          · ((intro w hSw; (try dsimp only at hSw); go_simp); try with_reducible rfl)
          (try simp only [Act.put, List.setIfInBounds_toArray, List.set_cons_zero, List.set_cons_succ])
          refine wpAnyH_take (i := 24) (oi := ({ dst := some 77, op := Op.pick (Operand.tmp 70) (Operand.tmp 76) (Operand.const (Value.bool false)), type := 4, pos := "law.go:55", after := #[{ on := 17, ground := Ground.data }, { on := 23, ground := Ground.data }], guard := none } : Oper)) (v := ?_) rfl (by kernel_rfl) (by kernel_rfl) (by kernel_rfl) (fun _ _ _ h => h) (Or.inl ⟨by rfl, ?_⟩) (by assumption) ?_
          rotate_left
          · ((intro w hSw; (try dsimp only at hSw); go_simp); try with_reducible rfl)
          (try simp only [Act.put, List.setIfInBounds_toArray, List.set_cons_zero, List.set_cons_succ])
          refine wpAnyH_take (i := 25) (oi := ({ dst := some 78, op := Op.move (Operand.tmp 77), type := 4, pos := "law.go:55", after := #[{ on := 24, ground := Ground.data }, { on := 20, ground := Ground.chain }], guard := none } : Oper)) (v := ?_) rfl (by kernel_rfl) (by kernel_rfl) (by kernel_rfl) (fun _ _ _ h => h) (Or.inl ⟨by rfl, ?_⟩) (by assumption) ?_
          rotate_left
          · ((intro w hSw; (try dsimp only at hSw); go_simp); try with_reducible rfl)
          (try simp only [Act.put, List.setIfInBounds_toArray, List.set_cons_zero, List.set_cons_succ])
          refine wpAnyH_take (i := 26) (oi := ({ dst := some 79, op := Op.move (Operand.tmp 12), type := 29, pos := "law.go:55", after := #[{ on := 25, ground := Ground.guard }], guard := some (25, true) } : Oper)) (v := ?_) rfl (by kernel_rfl) (by kernel_rfl) (by kernel_rfl) (fun _ _ _ h => h) (Or.inl ⟨by rfl, ?_⟩) (by assumption) ?_
          rotate_left
          · ((intro w hSw; (try dsimp only at hSw); go_simp); try with_reducible rfl)
          (try simp only [Act.put, List.setIfInBounds_toArray, List.set_cons_zero, List.set_cons_succ])
          refine wpAnyH_take (i := 27) (oi := ({ dst := some 80, op := Op.move (Operand.tmp 14), type := 29, pos := "law.go:55", after := #[{ on := 25, ground := Ground.guard }], guard := some (25, true) } : Oper)) (v := ?_) rfl (by kernel_rfl) (by kernel_rfl) (by kernel_rfl) (fun _ _ _ h => h) (Or.inl ⟨by rfl, ?_⟩) (by assumption) ?_
          rotate_left
          · ((intro w hSw; (try dsimp only at hSw); go_simp); try with_reducible rfl)
          (try simp only [Act.put, List.setIfInBounds_toArray, List.set_cons_zero, List.set_cons_succ])
          refine wpAnyH_ready (rs := [28]) (by kernel_rfl) (by simp) (AllReadyH.cons (o := ({ dst := some 81, op := Op.call { callee := Callee.value (Operand.func 15), args := #[Operand.tmp 79, Operand.tmp 80], argTypes := #[29, 29] }, type := 4, pos := "law.go:55", after := #[{ on := 26, ground := Ground.data }, { on := 27, ground := Ground.data }, { on := 25, ground := Ground.chain }, { on := 25, ground := Ground.guard }], guard := some (25, true) } : Oper)) rfl (fun K hK => ?_) AllReadyH.nil)
          go_simp
          (go_at_call 15; (with_reducible refine (HI.out _ hbB).mono ?_); rintro e wc ⟨rfl, hbc⟩; have hbC : Below w5.heap.size w5 wc := hbB.trans (hbc.mono hbB.size))
          refine hK.out _ _ (HS.out _ (hbC.block X hs5)) (fun hHeld => ?_)
          clear hK K
          (try simp only [Act.put, List.setIfInBounds_toArray, List.set_cons_zero, List.set_cons_succ])
          refine wpAnyH_take (i := 29) (oi := ({ dst := some 82, op := Op.pick (Operand.tmp 78) (Operand.tmp 81) (Operand.const (Value.bool false)), type := 4, pos := "law.go:55", after := #[{ on := 25, ground := Ground.data }, { on := 28, ground := Ground.data }], guard := none } : Oper)) (v := ?_) rfl (by kernel_rfl) (by kernel_rfl) (by kernel_rfl) (fun _ _ _ h => h) (Or.inl ⟨by rfl, ?_⟩) (by assumption) ?_
          rotate_left
          · ((intro w hSw; (try dsimp only at hSw); go_simp); try with_reducible rfl)
          (try simp only [Act.put, List.setIfInBounds_toArray, List.set_cons_zero, List.set_cons_succ])
          refine wpAnyH_take (i := 30) (oi := ({ dst := some 83, op := Op.move (Operand.tmp 82), type := 4, pos := "law.go:55", after := #[{ on := 29, ground := Ground.data }, { on := 28, ground := Ground.chain }], guard := none } : Oper)) (v := ?_) rfl (by kernel_rfl) (by kernel_rfl) (by kernel_rfl) (fun _ _ _ h => h) (Or.inl ⟨by rfl, ?_⟩) (by assumption) ?_
          rotate_left
          · ((intro w hSw; (try dsimp only at hSw); go_simp); try with_reducible rfl)
          (try simp only [Act.put, List.setIfInBounds_toArray, List.set_cons_zero, List.set_cons_succ])
          refine wpAnyH_take (i := 31) (oi := ({ dst := some 84, op := Op.move (Operand.tmp 13), type := 33, pos := "law.go:55", after := #[{ on := 30, ground := Ground.guard }], guard := some (30, true) } : Oper)) (v := ?_) rfl (by kernel_rfl) (by kernel_rfl) (by kernel_rfl) (fun _ _ _ h => h) (Or.inl ⟨by rfl, ?_⟩) (by assumption) ?_
          rotate_left
          · ((intro w hSw; (try dsimp only at hSw); go_simp); try with_reducible rfl)
          (try simp only [Act.put, List.setIfInBounds_toArray, List.set_cons_zero, List.set_cons_succ])
          refine wpAnyH_take (i := 32) (oi := ({ dst := some 85, op := Op.move (Operand.tmp 15), type := 33, pos := "law.go:55", after := #[{ on := 30, ground := Ground.guard }], guard := some (30, true) } : Oper)) (v := ?_) rfl (by kernel_rfl) (by kernel_rfl) (by kernel_rfl) (fun _ _ _ h => h) (Or.inl ⟨by rfl, ?_⟩) (by assumption) ?_
          rotate_left
          · ((intro w hSw; (try dsimp only at hSw); go_simp); try with_reducible rfl)
          (try simp only [Act.put, List.setIfInBounds_toArray, List.set_cons_zero, List.set_cons_succ])
          refine wpAnyH_take (i := 33) (oi := ({ dst := some 86, op := Op.binOp BinOp.eql 33 (Operand.tmp 84) (Operand.tmp 85) 33, type := 4, pos := "law.go:55", after := #[{ on := 31, ground := Ground.data }, { on := 32, ground := Ground.data }, { on := 30, ground := Ground.guard }], guard := some (30, true) } : Oper)) (v := ?_) rfl (by kernel_rfl) (by kernel_rfl) (by kernel_rfl) (fun _ _ _ h => h) (Or.inl ⟨by rfl, ?_⟩) (by assumption) ?_
          rotate_left
          · ((intro w hSw; (try dsimp only at hSw); go_simp); try with_reducible rfl)
          (try simp only [Act.put, List.setIfInBounds_toArray, List.set_cons_zero, List.set_cons_succ])
          refine wpAnyH_take (i := 34) (oi := ({ dst := some 87, op := Op.pick (Operand.tmp 83) (Operand.tmp 86) (Operand.const (Value.bool false)), type := 4, pos := "law.go:55", after := #[{ on := 30, ground := Ground.data }, { on := 33, ground := Ground.data }], guard := none } : Oper)) (v := ?_) rfl (by kernel_rfl) (by kernel_rfl) (by kernel_rfl) (fun _ _ _ h => h) (Or.inl ⟨by rfl, ?_⟩) (by assumption) ?_
          rotate_left
          · ((intro w hSw; (try dsimp only at hSw); go_simp); try with_reducible rfl)
          (try simp only [Act.put, List.setIfInBounds_toArray, List.set_cons_zero, List.set_cons_succ])
          refine wpAnyH_take (i := 35) (oi := ({ dst := some 88, op := Op.move (Operand.tmp 87), type := 4, pos := "law.go:55", after := #[{ on := 34, ground := Ground.data }, { on := 30, ground := Ground.chain }], guard := none } : Oper)) (v := ?_) rfl (by kernel_rfl) (by kernel_rfl) (by kernel_rfl) (fun _ _ _ h => h) (Or.inl ⟨by rfl, ?_⟩) (by assumption) ?_
          rotate_left
          · ((intro w hSw; (try dsimp only at hSw); go_simp); try with_reducible rfl)
          (try simp only [Act.put, List.setIfInBounds_toArray, List.set_cons_zero, List.set_cons_succ])
          refine wpAnyH_ready (rs := [36]) (by kernel_rfl) (by simp) (AllReadyH.cons (o := ({ dst := some 89, op := Op.call { callee := Callee.value (Operand.func 9), args := #[], argTypes := #[] }, type := 4, pos := "law.go:55", after := #[{ on := 35, ground := Ground.chain }, { on := 35, ground := Ground.guard }], guard := some (35, true) } : Oper)) rfl (fun K hK => ?_) AllReadyH.nil)
          go_simp
          (go_at_call 9; (with_reducible refine (HA2.out _).mono ?_); rintro e wd ⟨rfl, hbd⟩; have hbD : Below w5.heap.size w5 wd := hbC.trans (hbd.mono hbC.size))
          refine hK.out _ _ (HS.out _ (hbD.block X hs5)) (fun hHeld => ?_)
          clear hK K
          (try simp only [Act.put, List.setIfInBounds_toArray, List.set_cons_zero, List.set_cons_succ])
          refine wpAnyH_take (i := 37) (oi := ({ dst := some 90, op := Op.pick (Operand.tmp 88) (Operand.tmp 89) (Operand.const (Value.bool false)), type := 4, pos := "law.go:55", after := #[{ on := 35, ground := Ground.data }, { on := 36, ground := Ground.data }], guard := none } : Oper)) (v := ?_) rfl (by kernel_rfl) (by kernel_rfl) (by kernel_rfl) (fun _ _ _ h => h) (Or.inl ⟨by rfl, ?_⟩) (by assumption) ?_
          rotate_left
          · ((intro w hSw; (try dsimp only at hSw); go_simp); try with_reducible rfl)
          (try simp only [Act.put, List.setIfInBounds_toArray, List.set_cons_zero, List.set_cons_succ])
          refine wpAnyH_take (i := 38) (oi := ({ dst := some 8, op := Op.assign (Operand.tmp 90), type := 4, pos := "law.go:55", after := #[{ on := 37, ground := Ground.data }, { on := 36, ground := Ground.chain }, { on := 0, ground := Ground.phase }, { on := 1, ground := Ground.phase }, { on := 2, ground := Ground.phase }, { on := 3, ground := Ground.phase }, { on := 4, ground := Ground.phase }, { on := 5, ground := Ground.phase }, { on := 6, ground := Ground.phase }, { on := 7, ground := Ground.phase }, { on := 8, ground := Ground.phase }, { on := 9, ground := Ground.phase }, { on := 10, ground := Ground.phase }, { on := 11, ground := Ground.phase }, { on := 12, ground := Ground.phase }, { on := 13, ground := Ground.phase }, { on := 14, ground := Ground.phase }, { on := 15, ground := Ground.phase }, { on := 16, ground := Ground.phase }, { on := 17, ground := Ground.phase }, { on := 18, ground := Ground.phase }, { on := 19, ground := Ground.phase }, { on := 20, ground := Ground.phase }, { on := 21, ground := Ground.phase }, { on := 22, ground := Ground.phase }, { on := 23, ground := Ground.phase }, { on := 24, ground := Ground.phase }, { on := 25, ground := Ground.phase }, { on := 26, ground := Ground.phase }, { on := 27, ground := Ground.phase }, { on := 28, ground := Ground.phase }, { on := 29, ground := Ground.phase }, { on := 30, ground := Ground.phase }, { on := 31, ground := Ground.phase }, { on := 32, ground := Ground.phase }, { on := 33, ground := Ground.phase }, { on := 34, ground := Ground.phase }, { on := 35, ground := Ground.phase }, { on := 36, ground := Ground.phase }, { on := 37, ground := Ground.phase }], guard := none } : Oper)) (v := ?_) rfl (by kernel_rfl) (by kernel_rfl) (by kernel_rfl) (fun _ _ _ h => h) (Or.inl ⟨by rfl, ?_⟩) (by assumption) ?_
          rotate_left
          · ((intro w hSw; (try dsimp only at hSw); go_simp); try with_reducible rfl)
          (try simp only [Act.put, List.setIfInBounds_toArray, List.set_cons_zero, List.set_cons_succ])
          refine wpAnyH_done (by kernel_rfl) ?_ _
          refine NoPanic.normal ?_
          go_wp2_with fail
          go_ret
          rw [HX.out]
          exact ⟨rfl, HB5.out.trans (hbD.mono (Nat.le_of_lt hs5))⟩
        all_goals
          go_wp2_with fail
          refine (HJ.out _ HB3.out).mono ?_
          rintro e w4 ⟨v4, rfl, hv4, hb4⟩
          have hb4w : Below X w w4 := HB3.out.trans (hb4.mono (Nat.le_of_lt hs3))
          have hr4 := (hb4.block X hs3).trans HR3.out
          have hs4 : X < w4.heap.size := (Array.getElem?_eq_some_iff.1 hr4).1
          have HB4 := Lib.hid hb4w
          have HR4 := Lib.hid hr4
          clear hb4 hb4w hr4
          go_wp2_with fail
          refine (HR.out _ HB4.out).mono ?_
          rintro e w5 ⟨v5, rfl, hv5, hb5⟩
          have hv4 := hv4.below hb5
          have hb5w : Below X w w5 := HB4.out.trans (hb5.mono (Nat.le_of_lt hs4))
          have hr5 := (hb5.block X hs4).trans HR4.out
          have hs5 : X < w5.heap.size := (Array.getElem?_eq_some_iff.1 hr5).1
          have HB5 := Lib.hid hb5w
          have HR5 := Lib.hid hr5
          clear hb5 hb5w hr5 HB4 HR4 hs4 HB3 HR3 hs3
          have HI := Lib.hid (fun (W : World) (hW : Below w5.heap.size w5 W) => ints_sh v4 v5 lm lm W (hv4.below hW) (hv5.below hW))
          simp only [decide_true] at HI
          clear hv4 hv5
          have HS : Hid (∀ W' : World, W'.heap[X]? = w5.heap[X]? → W'.cell? ⟨X, 0, none⟩ = some (.int .i64 c) ∧ W'.cell? ⟨X, 1, none⟩ = some (.int .i64 n) ∧ W'.cell? ⟨X, 2, none⟩ = some (.string key) ∧ W'.cell? ⟨X, 3, none⟩ = some (.string val) ∧ W'.cell? ⟨X, 4, none⟩ = some (.int .i64 time) ∧ W'.cell? ⟨X, 5, none⟩ = some (.int .i64 trust) ∧ W'.cell? ⟨X, 6, none⟩ = some (.int .i64 back)) := Lib.hid fun W' hW' => by
            have h := hW'.trans HR5.out
            exact ⟨by simp [World.cell?, h], by simp [World.cell?, h], by simp [World.cell?, h], by simp [World.cell?, h], by simp [World.cell?, h], by simp [World.cell?, h], by simp [World.cell?, h]⟩
          have HD0 := Lib.hid (belowDrew (Below.refl w5.heap.size w5))
          have HA2 := Lib.hid (fun W => awake_sh W)
          have hr0 : w5.heap[X]? = w5.heap[X]? := rfl
          have hr1 : w5.drew.heap[X]? = w5.heap[X]? := rfl
          go_upto_region 7 with fail
          go_region_held3 (fun W' => W'.cell? ⟨X, 0, none⟩ = some (.int .i64 c) ∧ W'.cell? ⟨X, 1, none⟩ = some (.int .i64 n) ∧ W'.cell? ⟨X, 2, none⟩ = some (.string key) ∧ W'.cell? ⟨X, 3, none⟩ = some (.string val) ∧ W'.cell? ⟨X, 4, none⟩ = some (.int .i64 time) ∧ W'.cell? ⟨X, 5, none⟩ = some (.int .i64 trust) ∧ W'.cell? ⟨X, 6, none⟩ = some (.int .i64 back))
            (first | with_reducible exact HS.out _ hr0 | with_reducible exact HS.out _ hr1 | with_reducible exact HS.out _ hA | with_reducible exact HS.out _ hB | with_reducible exact HS.out _ hC | with_reducible exact HS.out _ hD | trace_state)
            (first | (go_at_call 21; (with_reducible refine (HC.out _).mono ?_); rintro e wa ⟨rfl, hba⟩; have hbA : Below w5.heap.size w5 wa := HD0.out.trans hba; have hA : wa.heap[X]? = w5.heap[X]? := hbA.block X hs5) | (go_at_call 22; (with_reducible refine (HC2'.out _).mono ?_); rintro e wb ⟨rfl, hbb⟩; have hbB : Below w5.heap.size w5 wb := hbA.trans (hbb.mono hbA.size); have hB : wb.heap[X]? = w5.heap[X]? := hbB.block X hs5) | (go_at_call 15; (with_reducible refine (HI.out _ hbB).mono ?_); rintro e wc ⟨rfl, hbc⟩; have hbC : Below w5.heap.size w5 wc := hbB.trans (hbc.mono hbB.size); have hC : wc.heap[X]? = w5.heap[X]? := hbC.block X hs5) | (go_at_call 9; (with_reducible refine (HA2.out _).mono ?_); rintro e wd ⟨rfl, hbd⟩; have hbD : Below w5.heap.size w5 wd := hbC.trans (hbd.mono hbC.size); have hD : wd.heap[X]? = w5.heap[X]? := hbD.block X hs5))
          go_wp2_with fail
          go_ret
          rw [HX.out]
          exact ⟨rfl, HB5.out.trans (hbD.mono (Nat.le_of_lt hs5))⟩
end Go.Proofs.Ytngigogaiheckaa
