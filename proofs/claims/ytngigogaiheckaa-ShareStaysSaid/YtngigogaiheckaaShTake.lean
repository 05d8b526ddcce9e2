/- share: Take. -/
import Derived.Test.YtngigogaiheckaaShVec
namespace Go.Proofs.Ytngigogaiheckaa
open Go.RowKit Go.Lib Go.Maps

instance : Inhabited Sd := ⟨noSd⟩
theorem infoS : (Try.prog.info? 38).map (fun i => (i.zero, i.size, i.bytes)) = some (some (valSd noSd), 7, 72) := by kernel_rfl
theorem take1_sh (s : Sd) (w : World) : Calls Try.prog 33 #[valSd s] w fun e w' => e = .returned (.bool (!saidB s)) ∧ Below w.heap.size w w' := by
  have hc := fun W => check_sh s W
  generalize saidB s = q at *
  obtain ⟨c, n, key, val, time, trust, back⟩ := s
  dsimp only [valSd] at *
  have HC := Lib.hid hc
  clear hc
  go_enter Try.func33, Try.ntmps33
  go_wp2_with fail
  refine (HC.out _).mono ?_
  rintro e w1 ⟨rfl, hb⟩
  go_wp2_with fail
  go_ret
  exact ⟨rfl, ((Below.refl w.heap.size w).alloc (Nat.le_refl _) _).trans (hb.mono (by simp))⟩
/-- ContainsFunc over no element -/
theorem hasSaid_none (A : Option Addr) (c : Nat) (fv : Value) (w : World) : Calls Try.prog 32 #[.slice A 0 c, fv] w fun e w' => e = .returned (.bool false) ∧ w = w' := by
  have hi : ∀ w, Calls Try.prog 57 #[.slice A 0 c, fv] w fun e w' => e = .returned (.int .i64 (-1)) ∧ w = w' := by
    intro w
    go_enter Try.func57, Try.ntmps57
    go_wp2_with fail
    go_loopw [8] (fun i wr => i = .int .i64 0 ∧ w = wr) (fun _ _ => 0)
    case atStart => exact ⟨rfl, rfl⟩
    case round =>
      obtain ⟨rfl, rfl⟩ := hrel
      go_wp2_with fail
      go_ret
      exact ⟨rfl, rfl⟩
  go_enter Try.func32, Try.ntmps32
  go_wp2_with fail
  refine (hi _).mono ?_
  rintro e w1 ⟨rfl, rfl⟩
  go_wp2_with fail
  go_ret
  exact ⟨rfl, rfl⟩
theorem hasSaid_sh (v : Value) (l : List Sd) (w : World) (h : Lst 7 encSd w v l) :
    Calls Try.prog 32 #[v, .func (.func 33) #[] #[]] w fun e w' => e = .returned (.bool (l.any fun s => !saidB s)) ∧ Below w.heap.size w w' := by
  obtain ⟨A, c, rfl, h1, h2, h3⟩ := h
  unfold maxLen at h2
  rcases Nat.eq_zero_or_pos l.length with h0 | h0
  · have hl : l = [] := List.eq_nil_of_length_eq_zero h0
    subst hl
    refine (hasSaid_none A c _ w).mono ?_
    rintro e w' ⟨rfl, rfl⟩
    exact ⟨rfl, Below.refl _ _⟩
  · obtain ⟨b, off, rfl, hb, hc⟩ := h3 h0
    have hcon := AnyQ.slices_ContainsFunc Try.hasSaid 7 Try.isAgg38 Try.sizeOf38 encSd encSd_len (fun s => !saidB s) 33 #[] (enters_of Try.func33 (by kernel_rfl) rfl) b off l.length c l w
      (fun W x hW => (take1_sh x W).mono fun e w' ⟨he, hb'⟩ => ⟨he, hW.trans (hb'.mono hW.size)⟩) (Nat.le_refl _) (by omega) hb
      (fun j hj i u hu => by
        have e : l[j]! = l[j] := by simp [hj]
        rw [e] at hu
        exact hc j i _ u (List.getElem?_eq_getElem hj) hu)
    rw [List.take_length] at hcon
    exact hcon
theorem fresh_has {arr l : List Sd} {k : Nat} {s : Sd} (h : l[k]? = some s) : fresh arr (l.take (k + 1)) = if hasP arr s.c s.n || hasP (fresh arr (l.take k)) s.c s.n then fresh arr (l.take k) else fresh arr (l.take k) ++ [s] := fresh_take h
theorem getP_of {l : List Sd} {s : Sd} {c n : Int} (h : hasP l c n = true) (hq : ∀ t, t ∈ l → t.c = c → t.n = n → s = t) : getP l c n = s := by
  unfold hasP at h
  obtain ⟨t, ht⟩ := Option.isSome_iff_exists.1 h
  obtain ⟨h1, h2, h3⟩ := atP_some ht
  unfold getP
  rw [ht]
  exact (hq t h1 h2 h3).symm
theorem ownsBlocks' {w w' : World} {base : Nat} {v : Value} {e : TypeId} {z n : Nat} {xs : List Value} (hr : w.ownsRow base e z v n xs) (hF2 : ∀ b, v.ownBlock = some b → w'.heap[b]? = w.heap[b]?) : w'.ownsRow base e z v n xs := by
  refine ⟨hr.1, ?_⟩
  rcases hr.2 with h1 | ⟨g, cap, cur, rfl, hb, hh, hr2⟩
  · exact .inl h1
  · exact .inr ⟨g, cap, cur, rfl, hb, (hF2 g rfl).trans hh, hr2⟩
theorem other7 (w : World) {b Y : Nat} (h : b ≠ Y) (a0 a1 a2 a3 a4 a5 a6 : Value) : (((((((w.setCell ⟨Y, 0, none⟩ a0).setCell ⟨Y, 1, none⟩ a1).setCell ⟨Y, 2, none⟩ a2).setCell ⟨Y, 3, none⟩ a3).setCell ⟨Y, 4, none⟩ a4).setCell ⟨Y, 5, none⟩ a5).setCell ⟨Y, 6, none⟩ a6).heap[b]? = w.heap[b]? := by
  have hn : ∀ (W : World) (k : Nat) (u : Value), (W.setCell ⟨Y, k, none⟩ u).heap[b]? = W.heap[b]? := fun W k u => Below.heap_setCell _ _ _ _ h
  rw [hn, hn, hn, hn, hn, hn, hn]
theorem size7 (w : World) (Y : Nat) (a0 a1 a2 a3 a4 a5 a6 : Value) : (((((((w.setCell ⟨Y, 0, none⟩ a0).setCell ⟨Y, 1, none⟩ a1).setCell ⟨Y, 2, none⟩ a2).setCell ⟨Y, 3, none⟩ a3).setCell ⟨Y, 4, none⟩ a4).setCell ⟨Y, 5, none⟩ a5).setCell ⟨Y, 6, none⟩ a6).heap.size = w.heap.size := by simp
theorem size_alloc' (w : World) (o : Obj) : (w.alloc o).heap.size = w.heap.size + 1 := by simp
theorem take_succ' {α : Type} {l : List α} {j : Nat} {s : α} (h : l[j]? = some s) : l.take (j + 1) = l.take j ++ [s] := by
  rw [List.take_add_one, h]
  rfl
/-- blocks from the beginning's end on are free -/
theorem Ext.transFr {F : Nat → Prop} {N : Nat} {w w1 w2 : World} (h : Ext F w w1) (k : Ext (Fr F N) w1 w2) (hN : w.heap.size = N) : Ext F w w2 :=
  ⟨k.os.trans h.os, k.tape.trans h.tape, k.output.trans h.output, Nat.le_trans h.size k.size, fun b hb hf => (k.block b (Nat.lt_of_lt_of_le hb h.size) (fun e => e.elim hf fun e => by omega)).trans (h.block b hb hf)⟩
theorem fresh_no {arr fr : List Sd} (h : ∀ s, s ∈ fr → hasP arr s.c s.n = false) (h2 : fr.Pairwise fun a b => ¬ sameP a b) {j : Nat} {s : Sd} (hs : fr[j]? = some s) : hasP (arr ++ fr.take j) s.c s.n = false := by
  have h1 := h s (List.mem_of_getElem? hs)
  cases hq : hasP (arr ++ fr.take j) s.c s.n with
  | false => rfl
  | true =>
    obtain ⟨t, ht, e1, e2⟩ := hasP_iff.1 hq
    rcases List.mem_append.1 ht with ht | ht
    · rw [hasP_iff.2 ⟨t, ht, e1, e2⟩] at h1
      cases h1
    · obtain ⟨i, hi, hti⟩ := List.mem_iff_getElem.1 ht
      obtain ⟨hj, hsj⟩ := List.getElem?_eq_some_iff.1 hs
      have hij : i < j := by simp at hi; omega
      rw [List.getElem_take] at hti
      have h3 := List.pairwise_iff_getElem.1 h2 i j (by omega) hj hij
      rw [hti, hsj] at h3
      exact absurd ⟨e1, e2⟩ h3
set_option maxRecDepth 100000 in
set_option maxHeartbeats 4000000 in
theorem take_sh (w : World) {F : Nat → Prop} {p : Nat} {cen : Int} {arr : List Sd} (h : Pic w F p cen arr) (hF : ∀ b, F b → b < w.heap.size) (v : Value) (l : List Sd) (hv : Lst 7 encSd w v l) (hnum : Nums arr) (hok : ∀ s, s ∈ l → saidB s = true) (hsame : ∀ s, s ∈ l → ∀ t, t ∈ arr ∨ t ∈ l → sameP s t → s = t) (hl : arr.length + l.length ≤ 900) :
    Calls Try.prog 14 #[.pointer (some ⟨p, 0, none⟩), v] w fun e w' => e = .returned (.tuple #[.int .i64 (fresh arr l).length, .int .i64 0]) ∧ Pic w' (Gr F w w') p cen (arr ++ fresh arr l) ∧ Ext F w w' := by
  obtain ⟨m, va, vk, h⟩ := h
  obtain ⟨A, cc, rfl⟩ := rowSlice h.ra
  have his := is_sh p m w h.c1
  have hhas := hasSaid_sh v l w hv
  have hany : (l.any fun s => !saidB s) = false := by
    rw [List.any_eq_false]
    intro s hs
    rw [hok s hs]
    simp
  rw [hany] at hhas
  obtain ⟨B2, c2, rfl, hc2, hm2, hcells⟩ := id hv
  have HP := Lib.hid h
  have HF := Lib.hid hF
  have HI := Lib.hid his
  have HH := Lib.hid hhas
  have HV := Lib.hid hv
  have HO := Lib.hid hok
  have HS := Lib.hid hsame
  have HU := Lib.hid hnum
  have hmm := @run_makeMap Try.prog
  obtain ⟨i0, hi, hz0, hz1, hz2⟩ := info_parts infoS
  have hlt := h.lt
  clear h hF his hhas hany hok hsame hnum hcells hm2 hc2
  go_enter Try.func14, Try.ntmps14
  go_wp2_with fail
  refine HI.out.mono ?_
  rintro e w1 ⟨rfl, rfl⟩
  go_wp2_with fail
  refine HH.out.mono ?_
  rintro e w1 ⟨rfl, hb1⟩
  go_wp2_with fail
  have hT0 := There.made w1
  have hb0 : Below w.heap.size w (w1.alloc (.map #[] 0)) := hb1.alloc hb1.size _
  have hz0' : (w1.alloc (.map #[] 0)).heap.size = w1.heap.size + 1 := by simp
  obtain ⟨W0, hW0⟩ : ∃ W, w1.alloc (.map #[] 0) = W := ⟨_, rfl⟩
  rw [hW0] at hT0 hb0 hz0' ⊢
  have hMw : w.heap.size ≤ w1.heap.size := hb1.size
  clear hW0
  obtain ⟨MC, hMC⟩ : ∃ M, w1.heap.size = M := ⟨_, rfl⟩
  rw [hMC] at hT0 hz0' hMw ⊢
  clear hMC hb1
  obtain ⟨n, hn⟩ : ∃ n, l.length = n := ⟨_, rfl⟩
  rw [hn] at hl ⊢
  have HNL := Lib.hid hn
  clear hn
  go_loopw [6, 23] (fun fv i wr => ∃ k : Nat, k ≤ n ∧ i = .int .i64 k ∧ Below w.heap.size w wr ∧ There wr MC (fresh arr (l.take k)).length (fresh arr (l.take k)) ∧ wr.ownsRow (MC + 1) 38 7 fv (fresh arr (l.take k)).length (flatE encSd (fresh arr (l.take k))) ∧ MC + 1 ≤ wr.heap.size) (fun _ i _ => n - (intOf i).toNat)
  case atStart => exact ⟨0, Nat.zero_le _, rfl, hb0, hT0, World.ownsRow_nil _ _ _ _, by omega⟩
  case round =>
    obtain ⟨k, hk, rfl, hbr, hTr, hor, hzr⟩ := hrel
    by_cases hlt2 : k < n
    · obtain ⟨s, hs⟩ : ∃ s, l[k]? = some s := ⟨_, List.getElem?_eq_getElem (by rw [HNL.out]; exact hlt2)⟩
      have hstep := fresh_has (arr := arr) hs
      have hmem := List.mem_of_getElem? hs
      have hsok := SdOK.of (HO.out s hmem)
      obtain ⟨b, off, rfl, hbl, hcc⟩ : ∃ b off, B2 = some ⟨b, off, none⟩ ∧ b < wr.heap.size ∧ ∀ (j i : Nat) (x : Sd) (u : Value), l[j]? = some x → (encSd x)[i]? = some u → wr.cell? ⟨b, off + j * 7 + i, none⟩ = some u := by
        obtain ⟨A', c', e, -, -, h3⟩ := HV.out.below hbr
        cases e
        obtain ⟨b, off, e', hb, hc⟩ := h3 (by have := HNL.out; omega)
        exact ⟨b, off, e', hb, hc⟩
      have hfl : (fresh arr (l.take k)).length ≤ k := Nat.le_trans (fresh_len arr (l.take k)) (by simp; omega)
      have hofs := fun W => of_sh s W (by have := hsok.c; omega)
      have hq1 : hasP arr s.c s.n = true → getP arr s.c s.n = s := fun h => getP_of h fun t ht e1 e2 => HS.out s hmem t (.inl ht) ⟨e1.symm, e2.symm⟩
      have hq2 : hasP (fresh arr (l.take k)) s.c s.n = true → getP (fresh arr (l.take k)) s.c s.n = s := fun h => getP_of h fun t ht e1 e2 => HS.out s hmem t (.inr (List.mem_of_mem_take (fresh_sub _ _ t ht))) ⟨e1.symm, e2.symm⟩
      have hnone : ∀ L : List Sd, hasP L s.c s.n = false → getP L s.c s.n = noSd := fun L h => by
        unfold hasP at h
        unfold getP
        cases e : atP L s.c s.n with
        | none => rfl
        | some t => rw [e] at h; cases h
      have hne := fun W => neq_sd s s W
      simp only [decide_true, Bool.not_true] at hne
      obtain ⟨fr, hfr⟩ : ∃ f, fresh arr (l.take k) = f := ⟨_, rfl⟩
      rw [hfr] at hTr hor hfl hq2 hstep
      have HST := Lib.hid hstep
      have HOK := Lib.hid hsok
      clear hstep hsok hmem
      obtain ⟨sc, sn, key, val, time, trust, back⟩ := s
      dsimp only [valSd] at *
      have x0 := hcc k 0 _ _ hs rfl
      have x1 := hcc k 1 _ _ hs rfl
      have x2 := hcc k 2 _ _ hs rfl
      have x3 := hcc k 3 _ _ hs rfl
      have x4 := hcc k 4 _ _ hs rfl
      have x5 := hcc k 5 _ _ hs rfl
      have x6 := hcc k 6 _ _ hs rfl
      simp only [Nat.add_zero] at x0
      have HOF := Lib.hid hofs
      have HQ1 := Lib.hid hq1
      have HQ2 := Lib.hid hq2
      have HN0 := Lib.hid hnone
      have HT := Lib.hid hTr
      have HOW := Lib.hid hor
      have HBR := Lib.hid hbr
      have HNE := Lib.hid hne
      clear hofs hq1 hq2 hnone hcc hs hTr hor hbr hne
      have hk1 : (k : Int) < n := by omega
      have hk2 : (0 : Int) ≤ k := by omega
      go_wp2_with fail
      obtain ⟨W9, hW9⟩ : ∃ W, wr.alloc (.cells #[.int .i64 sc, .int .i64 sn, .string key, .string val, .int .i64 time, .int .i64 trust, .int .i64 back] 38) = W := ⟨_, rfl⟩
      have hr9 : W9.heap[wr.heap.size]? = some (.cells #[.int .i64 sc, .int .i64 sn, .string key, .string val, .int .i64 time, .int .i64 trust, .int .i64 back] 38 (0, 0)) := by
        rw [← hW9]
        exact heap_alloc_new wr _
      have hb9 : Below wr.heap.size wr W9 := by
        rw [← hW9]
        exact (Below.refl _ _).alloc (Nat.le_refl _) _
      have hz9 : W9.heap.size = wr.heap.size + 1 := by rw [← hW9]; simp
      rw [hW9]
      clear hW9
      obtain ⟨X9, hX9⟩ : ∃ X, wr.heap.size = X := ⟨_, rfl⟩
      rw [hX9] at hr9 hb9 hz9 hbl hzr ⊢
      refine (HOF.out W9).mono ?_
      rintro e w10 ⟨rfl, hb10⟩
      have hr9 := (hb10.block X9 (by omega)).trans hr9
      have hz10 := hb10.size
      have hb10 : Below X9 wr w10 := hb9.trans (hb10.mono (by omega))
      have y0 : w10.cell? ⟨X9, 0, none⟩ = some (.int .i64 sc) := by simp [World.cell?, hr9]
      clear hb9
      go_wp2_with fail
      obtain ⟨W11, hW11⟩ : ∃ W, w10.alloc (.cells #[.int .i64 (sc - 1), .int .i64 sn] 70) = W := ⟨_, rfl⟩
      have hr11 : W11.heap[w10.heap.size]? = some (.cells #[.int .i64 (sc - 1), .int .i64 sn] 70 (0, 0)) := by
        rw [← hW11]
        exact heap_alloc_new w10 _
      have hr9 : W11.heap[X9]? = some (.cells #[.int .i64 sc, .int .i64 sn, .string key, .string val, .int .i64 time, .int .i64 trust, .int .i64 back] 38 (0, 0)) := by
        rw [← hW11, Below.heap_alloc _ _ _ (by omega)]
        exact hr9
      have hb11 : Below X9 wr W11 := by
        rw [← hW11]
        exact hb10.alloc (by omega) _
      have hz11 : W11.heap.size = w10.heap.size + 1 := by rw [← hW11]; simp
      rw [hW11]
      clear hW11 hb10 y0
      obtain ⟨X10, hX10⟩ : ∃ X, w10.heap.size = X := ⟨_, rfl⟩
      rw [hX10] at hr11 hz11 hz10 ⊢
      have hbw : Below w.heap.size w W11 := HBR.out.trans (hb11.mono (by omega))
      have HP11 := Lib.hid (HP.out.below hbw)
      have HT11 := Lib.hid (HT.out.below (by rw [hX9]; exact hb11))
      have HOW0 := Lib.hid HOW.out
      have HOW11 := Lib.hid (ownsBelow HOW.out (by rw [hX9]; exact hb11))
      clear HT HOW HP hb11 x0 x1 x2 x3 x4 x5 x6
      obtain ⟨q, hq⟩ : ∃ q, hasP arr sc sn = q := ⟨_, rfl⟩
      obtain ⟨⟨gc, gn, gk, gv, gt, gu, gb⟩, hg⟩ : ∃ g, getP arr sc sn = g := ⟨_, rfl⟩
      have isc : isI64 (sc - 1) := isI64_of (by have := HOK.out.c; dsimp only at this; omega)
      have isn : isI64 sn := isI64_of (by have := HOK.out.n; dsimp only at this; omega)
      have esc : sc - 1 + 1 = sc := by omega
      have HS2 : Hid (∀ W', Below W11.heap.size W11 W' → (W'.cell? ⟨p, 1, none⟩ = some (.map (some m)) ∧ W'.cell? ⟨X10, 0, none⟩ = some (.int .i64 (sc - 1)) ∧ W'.cell? ⟨X10, 1, none⟩ = some (.int .i64 sn) ∧
          (Instr.lookup 68 (.map (some m)) (.agg #[.int .i64 (sc - 1), .int .i64 sn]) true).run Try.prog W' = .ok (.tuple #[.agg #[.int .i64 gc, .int .i64 gn, .string gk, .string gv, .int .i64 gt, .int .i64 gu, .int .i64 gb], .bool q]) W')) := Lib.hid fun W' hb => by
        have p0 : W11.cell? ⟨X10, 0, none⟩ = some (.int .i64 (sc - 1)) := by simp [World.cell?, hr11]
        have p1 : W11.cell? ⟨X10, 1, none⟩ = some (.int .i64 sn) := by simp [World.cell?, hr11]
        refine ⟨(hb.cell (p := ⟨p, 1, none⟩) HP11.out.lt).trans HP11.out.c1, (hb.cell (p := ⟨X10, 0, none⟩) (by show X10 < _; omega)).trans p0, (hb.cell (p := ⟨X10, 1, none⟩) (by show X10 < _; omega)).trans p1, ?_⟩
        have h := (HP11.out.mp.below hb).look_ok isc isn
        rw [esc, hq, hg] at h
        exact h
      go_cut [11, 12] from 29 to 37 (fun o b wx => b = .bool q ∧ ∃ Y, o = .pointer (some ⟨Y, 0, none⟩) ∧ W11.heap.size ≤ Y ∧ wx.heap[Y]? = some (.cells #[.int .i64 gc, .int .i64 gn, .string gk, .string gv, .int .i64 gt, .int .i64 gu, .int .i64 gb] 38 (0, 0)) ∧ Below W11.heap.size W11 wx)
      case first =>
        go_region_held3 (fun W' => W'.cell? ⟨p, 1, none⟩ = some (.map (some m)) ∧ W'.cell? ⟨X10, 0, none⟩ = some (.int .i64 (sc - 1)) ∧ W'.cell? ⟨X10, 1, none⟩ = some (.int .i64 sn) ∧
          (Instr.lookup 68 (.map (some m)) (.agg #[.int .i64 (sc - 1), .int .i64 sn]) true).run Try.prog W' = .ok (.tuple #[.agg #[.int .i64 gc, .int .i64 gn, .string gk, .string gv, .int .i64 gt, .int .i64 gu, .int .i64 gb], .bool q]) W')
          ((refine HS2.out _ ?_; repeat (first | exact Below.refl _ _ | refine belowDrew ?_ | refine Below.alloc ?_ (by simp) _ | refine Below.setCell ?_ (by simp) _))) (fail)
        all_goals
          go_wp2_with fail
          go_meet
          have hnw := heap_alloc_new W11 (.cells #[.int .i64 gc, .int .i64 gn, .string gk, .string gv, .int .i64 gt, .int .i64 gu, .int .i64 gb] 38)
          rw [hz11] at hnw
          exact ⟨rfl, X10 + 1, rfl, by omega, hnw, belowDrew ((Below.refl _ _).alloc (Nat.le_refl _) _)⟩
      case rest =>
        obtain ⟨rfl, Y, rfl, hY, hrY, hbc⟩ := hcut
        have hr9 := (hbc.block X9 (by omega)).trans hr9
        have hr11 := (hbc.block X10 (by omega)).trans hr11
        have hlY : Y < wc.heap.size := (Array.getElem?_eq_some_iff.1 hrY).1
        have hTc := Lib.hid (HT11.out.below hbc)
        have hOc := Lib.hid (ownsBelow HOW11.out hbc)
        have hbwc : Below w.heap.size w wc := hbw.trans (hbc.mono (by omega))
        have hzc : W11.heap.size ≤ wc.heap.size := hbc.size
        clear HT11 HOW11 HS2 hbw HBR
        have s0 : wc.cell? ⟨X9, 0, none⟩ = some (.int .i64 sc) := by simp [World.cell?, hr9]
        have s1 : wc.cell? ⟨X9, 1, none⟩ = some (.int .i64 sn) := by simp [World.cell?, hr9]
        have s2 : wc.cell? ⟨X9, 2, none⟩ = some (.string key) := by simp [World.cell?, hr9]
        have s3 : wc.cell? ⟨X9, 3, none⟩ = some (.string val) := by simp [World.cell?, hr9]
        have s4 : wc.cell? ⟨X9, 4, none⟩ = some (.int .i64 time) := by simp [World.cell?, hr9]
        have s5 : wc.cell? ⟨X9, 5, none⟩ = some (.int .i64 trust) := by simp [World.cell?, hr9]
        have s6 : wc.cell? ⟨X9, 6, none⟩ = some (.int .i64 back) := by simp [World.cell?, hr9]
        have p0 : wc.cell? ⟨X10, 0, none⟩ = some (.int .i64 (sc - 1)) := by simp [World.cell?, hr11]
        have p1 : wc.cell? ⟨X10, 1, none⟩ = some (.int .i64 sn) := by simp [World.cell?, hr11]
        cases q with
        | true =>
          have e := HQ1.out hq
          rw [hg] at e
          cases e
          have hne := HNE.out
          have v0 : wc.cell? ⟨Y, 0, none⟩ = some (.int .i64 sc) := by simp [World.cell?, hrY]
          have v1 : wc.cell? ⟨Y, 1, none⟩ = some (.int .i64 sn) := by simp [World.cell?, hrY]
          have v2 : wc.cell? ⟨Y, 2, none⟩ = some (.string key) := by simp [World.cell?, hrY]
          have v3 : wc.cell? ⟨Y, 3, none⟩ = some (.string val) := by simp [World.cell?, hrY]
          have v4 : wc.cell? ⟨Y, 4, none⟩ = some (.int .i64 time) := by simp [World.cell?, hrY]
          have v5 : wc.cell? ⟨Y, 5, none⟩ = some (.int .i64 trust) := by simp [World.cell?, hrY]
          have v6 : wc.cell? ⟨Y, 6, none⟩ = some (.int .i64 back) := by simp [World.cell?, hrY]
          go_wp2_with fail
          go_roundw
          case rel =>
            have hst := HST.out
            rw [hq, Bool.true_or, if_pos rfl] at hst
            refine ⟨k + 1, by omega, by rw [Int.natCast_add]; rfl, hbwc, ?_, ?_, by omega⟩
            · rw [hst]; exact hTc.out
            · rw [hst]; exact hOc.out
          case measure =>
            simp [intOf]
            omega
        | false =>
          have e := HN0.out arr hq
          rw [hg] at e
          cases e
          obtain ⟨q2, hq2⟩ : ∃ q, hasP fr sc sn = q := ⟨_, rfl⟩
          obtain ⟨⟨dc, dn, dk, dv, dt, du, db⟩, hd⟩ : ∃ g, getP fr sc sn = g := ⟨_, rfl⟩
          have hlk := hTc.out.look_ok isc isn
          rw [esc, hq2, hd] at hlk
          dsimp only [valSd] at hlk
          change wc.heap[Y]? = some (.cells #[.int .i64 0, .int .i64 0, .string ⟨#[]⟩, .string ⟨#[]⟩, .int .i64 0, .int .i64 0, .int .i64 0] 38 (0, 0)) at hrY
          have z0 : wc.cell? ⟨Y, 0, none⟩ = some (.int .i64 0) := by simp [World.cell?, hrY]
          have z1 : wc.cell? ⟨Y, 1, none⟩ = some (.int .i64 0) := by simp [World.cell?, hrY]
          have z2 : wc.cell? ⟨Y, 2, none⟩ = some (.string ⟨#[]⟩) := by simp [World.cell?, hrY]
          have z3 : wc.cell? ⟨Y, 3, none⟩ = some (.string ⟨#[]⟩) := by simp [World.cell?, hrY]
          have z4 : wc.cell? ⟨Y, 4, none⟩ = some (.int .i64 0) := by simp [World.cell?, hrY]
          have z5 : wc.cell? ⟨Y, 5, none⟩ = some (.int .i64 0) := by simp [World.cell?, hrY]
          have z6 : wc.cell? ⟨Y, 6, none⟩ = some (.int .i64 0) := by simp [World.cell?, hrY]
          have f0 := zfro hrY 0
          have f1 := zfro hrY 1
          have f2 := zfro hrY 2
          have f3 := zfro hrY 3
          have f4 := zfro hrY 4
          have f5 := zfro hrY 5
          have f6 := zfro hrY 6
          cases q2 with
          | true =>
            have e := HQ2.out hq2
            rw [hd] at e
            cases e
            have hne := HNE.out
            go_wp2_with fail
            go_roundw
            case rel =>
              have hst := HST.out
              rw [hq, hq2, Bool.or_true, if_pos rfl] at hst
              refine ⟨k + 1, by omega, by rw [Int.natCast_add]; rfl, below7 hbwc (by omega) _ _ _ _ _ _ _, ?_, ?_, by rw [size7]; omega⟩
              · rw [hst]
                exact hTc.out.of_block (other7 wc (by omega) _ _ _ _ _ _ _)
              · rw [hst]
                exact ownsBlocks' hOc.out fun b hb => other7 wc (fun e => by
                  have := ownBlock_lt HOW0.out hb
                  omega) _ _ _ _ _ _ _
            case measure =>
              simp [intOf]
              omega
          | false =>
            have e := HN0.out fr hq2
            rw [hd] at e
            cases e
            go_upto_region 17 with fail
            obtain ⟨wz, hwz⟩ : ∃ W, (((((((wc.setCell ⟨Y, 0, none⟩ (.int .i64 0)).setCell ⟨Y, 1, none⟩ (.int .i64 0)).setCell ⟨Y, 2, none⟩ (.string ByteArray.empty)).setCell ⟨Y, 3, none⟩ (.string ByteArray.empty)).setCell ⟨Y, 4, none⟩ (.int .i64 0)).setCell ⟨Y, 5, none⟩ (.int .i64 0)).setCell ⟨Y, 6, none⟩ (.int .i64 0)) = W := ⟨_, rfl⟩
            have hTz : There wz MC fr.length fr := by
              rw [← hwz]
              exact hTc.out.of_block (other7 wc (by omega) _ _ _ _ _ _ _)
            have hOz : wz.ownsRow (MC + 1) 38 7 u6 fr.length (flatE encSd fr) := by
              rw [← hwz]
              exact ownsBlocks' hOc.out fun b hb => other7 wc (fun e => by
                  have := ownBlock_lt HOW0.out hb
                  omega) _ _ _ _ _ _ _
            have hbz : Below w.heap.size w wz := by
              rw [← hwz]
              exact below7 hbwc (by omega) _ _ _ _ _ _ _
            have hzz : wz.heap.size = wc.heap.size := by rw [← hwz, size7]
            have hr9z : wz.heap[X9]? = some (.cells #[.int .i64 sc, .int .i64 sn, .string key, .string val, .int .i64 time, .int .i64 trust, .int .i64 back] 38 (0, 0)) := by
              rw [← hwz, other7 wc (by omega)]
              exact hr9
            have hr11z : wz.heap[X10]? = some (.cells #[.int .i64 (sc - 1), .int .i64 sn] 70 (0, 0)) := by
              rw [← hwz, other7 wc (by omega)]
              exact hr11
            rw [hwz]
            clear hwz
            have s0 : wz.cell? ⟨X9, 0, none⟩ = some (.int .i64 sc) := by simp [World.cell?, hr9z]
            have s1 : wz.cell? ⟨X9, 1, none⟩ = some (.int .i64 sn) := by simp [World.cell?, hr9z]
            have s2 : wz.cell? ⟨X9, 2, none⟩ = some (.string key) := by simp [World.cell?, hr9z]
            have s3 : wz.cell? ⟨X9, 3, none⟩ = some (.string val) := by simp [World.cell?, hr9z]
            have s4 : wz.cell? ⟨X9, 4, none⟩ = some (.int .i64 time) := by simp [World.cell?, hr9z]
            have s5 : wz.cell? ⟨X9, 5, none⟩ = some (.int .i64 trust) := by simp [World.cell?, hr9z]
            have s6 : wz.cell? ⟨X9, 6, none⟩ = some (.int .i64 back) := by simp [World.cell?, hr9z]
            have p0 : wz.cell? ⟨X10, 0, none⟩ = some (.int .i64 (sc - 1)) := by simp [World.cell?, hr11z]
            have p1 : wz.cell? ⟨X10, 1, none⟩ = some (.int .i64 sn) := by simp [World.cell?, hr11z]
            go_upto_region 18 with (at_mapUpdate; refine wpList_put_there _ rfl _ _ _ rfl MC fr.length fr ⟨sc, sn, key, val, time, trust, back⟩ rfl hTz (by unfold maxLen; omega) HOK.out hq2 rfl rfl ?_; intro w6 ht6 hg6)
            have hr9w := (hg6.block X9 (by omega) (fun e => by have := Option.some.inj e; omega)).trans hr9z
            have hz6 := hg6.size
            have s0 : w6.cell? ⟨X9, 0, none⟩ = some (.int .i64 sc) := by simp [World.cell?, hr9w]
            have s1 : w6.cell? ⟨X9, 1, none⟩ = some (.int .i64 sn) := by simp [World.cell?, hr9w]
            have s2 : w6.cell? ⟨X9, 2, none⟩ = some (.string key) := by simp [World.cell?, hr9w]
            have s3 : w6.cell? ⟨X9, 3, none⟩ = some (.string val) := by simp [World.cell?, hr9w]
            have s4 : w6.cell? ⟨X9, 4, none⟩ = some (.int .i64 time) := by simp [World.cell?, hr9w]
            have s5 : w6.cell? ⟨X9, 5, none⟩ = some (.int .i64 trust) := by simp [World.cell?, hr9w]
            have s6 : w6.cell? ⟨X9, 6, none⟩ = some (.int .i64 back) := by simp [World.cell?, hr9w]
            have hO6 : w6.ownsRow (MC + 1) 38 7 u6 fr.length (flatE encSd fr) := ownsBlocks' hOz (fun b hb => hg6.block b (ownBlock_lt hOz hb).2 (fun e => by have h1 := ownBlock_lt hOz hb; have := Option.some.inj e; omega))
            go_wp2_with (at_builtin; go_loud (refine wpList_append_lies _ rfl _ _ _ rfl (MC + 1) 38 i0 _ 7 72 Try.underlying26 hi hz0 hz1 hz2 rfl (by omega) u6 fr.length (flatE encSd fr) rfl (hO6.alloc _) ⟨w6.heap.size, 0, none⟩ 1 1 [.int .i64 sc, .int .i64 sn, .string key, .string val, .int .i64 time, .int .i64 trust, .int .i64 back] rfl rfl (newsLit (cs := #[.int .i64 sc, .int .i64 sn, .string key, .string val, .int .i64 time, .int .i64 trust, .int .i64 back]) rfl) (by simp [Value.oneCell']) (by omega) (by unfold maxLen; omega) (by omega) (by simp; omega) (w6.heap.size + 1) (by simp) ?_); intro gg cap5 w7 hown7 hgrow hat hlt7)
            go_roundw
            case rel =>
              have hst := HST.out
              rw [hq, hq2, Bool.or_false, if_neg (by simp)] at hst
              have hz7 := hgrow.size
              simp only [size_alloc'] at hz7
              refine ⟨k + 1, by omega, by rw [Int.natCast_add]; rfl, ?_, ?_, ?_, by omega⟩
              · have hb6 := hbz.grown hg6 (by have := hbz.size; omega) (fun r e => by have := Option.some.inj e; omega)
                refine Below.grown (hb6.alloc hb6.size _) hgrow (by simp; have := hb6.size; omega) (fun r e => by have := ownBlock_lt hO6 e; omega)
              · rw [hst, List.length_append]
                exact (ht6.below ((Below.refl _ _).alloc (Nat.le_refl _) _)).kept hgrow (fun e => by have := ownBlock_lt hO6 e.symm; omega)
              · rw [hst, flatE_append, List.length_append]
                exact hown7
            case measure =>
              simp [intOf]
              omega
    · obtain rfl : k = n := by omega
      obtain ⟨w5, hw5⟩ : ∃ W, W = wr := ⟨_, rfl⟩
      subst hw5
      have hkn := HNL.out
      rw [List.take_of_length_le (by omega)] at hTr hor
      have hfl := fresh_len arr l
      have hnew := fresh_new arr l
      have hsub := fresh_sub arr l
      obtain ⟨fr, hfr⟩ : ∃ f, fresh arr l = f := ⟨_, rfl⟩
      rw [hfr] at hTr hor hfl hnew hsub
      have HP1 := HP.out.below hbr
      obtain ⟨A3, c3, rfl⟩ := rowSlice hor
      have HNEW := Lib.hid hnew
      have HSUB := Lib.hid hsub
      have HBR := Lib.hid hbr
      have HFR := Lib.hid hfr
      have q2 : w5.cell? ⟨p, 2, none⟩ = some (.slice A arr.length cc) := HP1.c2
      have hW1 : w.heap.size ≤ w5.heap.size := hbr.size
      have HPR := Lib.hid (show Pic w5 F p cen (arr ++ fr.take 0) from by rw [List.take_zero, List.append_nil]; exact ⟨_, _, _, HP1⟩)
      clear hnew hsub hTr hbr hfr HP1
      have hk1 : ((k : Int) < k) = False := by simp
      have hlen : (arr.length : Int) + fr.length ≤ 1000 := by omega
      have hlen2 : ((1000 : Int) < arr.length + fr.length) = False := by simp only [eq_iff_iff, iff_false]; omega
      have hwr : IntKind.i64.wrap ((arr.length : Int) + fr.length) = arr.length + fr.length := wrapK _ (by omega) (by omega)
      go_wp2_with fail
      go_loopw [75] (fun i wx => ∃ j : Nat, j ≤ fr.length ∧ i = .int .i64 j ∧ Pic wx (Fr F w5.heap.size) p cen (arr ++ fr.take j) ∧ Ext F w5 wx ∧ wx.ownsRow (MC + 1) 38 7 (.slice A3 fr.length c3) fr.length (flatE encSd fr)) (fun i _ => fr.length - (intOf i).toNat)
      case atStart =>
        exact ⟨0, Nat.zero_le _, rfl, HPR.out.wide fun b hb => .inl hb, Ext.refl _ _, hor⟩
      case round =>
        obtain ⟨j, hj, rfl, hpx, hex, hox⟩ := hrel
        by_cases hj2 : j < fr.length
        · have hs : fr[j]? = some fr[j] := List.getElem?_eq_getElem hj2
          have hmem : fr[j] ∈ fr := List.getElem_mem _
          obtain ⟨s, hsj⟩ : ∃ s, fr[j] = s := ⟨_, rfl⟩
          rw [hsj] at hs hmem
          have hsok := SdOK.of (HO.out s (HSUB.out s hmem))
          have hnums : Nums (arr ++ fr.take j) := fun x hx => (List.mem_append.1 hx).elim (fun h => HU.out x h) fun h => by
            have h := SdOK.of (HO.out x (HSUB.out x (List.mem_of_mem_take h)))
            exact ⟨h.c, h.n⟩
          have hno : hasP (arr ++ fr.take j) s.c s.n = false := fresh_no HNEW.out.1 HNEW.out.2 hs
          have hst : arr ++ fr.take (j + 1) = (arr ++ fr.take j) ++ [s] := by
            rw [List.append_assoc, take_succ' hs]
          obtain ⟨B, off, rfl, hbl, hcc⟩ : ∃ b off, A3 = some ⟨b, off, none⟩ ∧ b < wr.heap.size ∧ ∀ (j i : Nat) (x : Sd) (u : Value), fr[j]? = some x → (encSd x)[i]? = some u → wr.cell? ⟨b, off + j * 7 + i, none⟩ = some u := by
            obtain ⟨A', c', e, -, -, h3⟩ := Lst_of_own encSd_len hox rfl
            cases e
            obtain ⟨b, off, e', hb, hc⟩ := h3 (by omega)
            exact ⟨b, off, e', hb, hc⟩
          have hlt2 : (arr ++ fr.take j).length ≤ 1000 := by simp; omega
          obtain ⟨sc, sn, key, val, time, trust, back⟩ := s
          have x0 := hcc j 0 _ _ hs rfl
          have x1 := hcc j 1 _ _ hs rfl
          have x2 := hcc j 2 _ _ hs rfl
          have x3 := hcc j 3 _ _ hs rfl
          have x4 := hcc j 4 _ _ hs rfl
          have x5 := hcc j 5 _ _ hs rfl
          have x6 := hcc j 6 _ _ hs rfl
          simp only [Nat.add_zero] at x0
          have hb0 : Below wr.heap.size wr (wr.alloc (.cells #[.int .i64 sc, .int .i64 sn, .string key, .string val, .int .i64 time, .int .i64 trust, .int .i64 back] 38)) := (Below.refl _ _).alloc (Nat.le_refl _) _
          obtain ⟨mx, vax, vkx, hpx2⟩ := hpx.below hb0
          have hadd := add_sh _ hpx2 ⟨sc, sn, key, val, time, trust, back⟩ hsok hnums hno hlt2
          have HADD := Lib.hid hadd
          have HST := Lib.hid hst
          have HEX := Lib.hid hex
          have HOX := Lib.hid hox
          clear hadd hex hpx hpx2 hox hcc
          have hk1 : (j : Int) < fr.length := by omega
          have hk2 : (0 : Int) ≤ j := by omega
          go_wp2_with fail
          refine HADD.out.mono ?_
          rintro e w9 ⟨rfl, hp9, he9⟩
          go_wp2_with fail
          go_roundw
          case rel =>
            have hsz := HEX.out.size
            have he1 : Ext F w5 w9 := HEX.out.transFr ((Ext.of_below hb0).trans he9) rfl
            have hbw : Below wr.heap.size wr _ := hb0
            refine ⟨j + 1, by omega, by rw [Int.natCast_add]; rfl, ?_, he1, ownsExt hor he1 fun b hb => by have := HF.out b hb; omega⟩
            rw [HST.out]
            exact hp9.wide fun b hb => hb.elim id fun h => .inr (by have := hb0.size; have := h.1; omega)
          case measure =>
            simp [intOf]
            omega
        · obtain rfl : j = fr.length := by omega
          rw [List.take_of_length_le (Nat.le_refl _)] at hpx
          have hk2 : ((fr.length : Int) < fr.length) = False := by simp
          have HPX := Lib.hid hpx
          have HEX := Lib.hid hex
          clear hpx hex hox
          go_wp2_with fail
          refine bodyPost_ret (v := .tuple #[.int .i64 fr.length, .int .i64 0]) (by simp [results, Try.results14, go_sem]) rfl ?_
          rw [HFR.out]
          obtain ⟨mx, vax, vkx, hpx⟩ := HPX.out
          have he1 : Ext F w wr := Ext.belowThen HBR.out HEX.out
          exact ⟨rfl, ⟨mx, vax, vkx, (hpx.fin rfl).wide fun b hb => hb.imp id fun h => ⟨by omega, h.2⟩⟩, he1⟩
end Go.Proofs.Ytngigogaiheckaa
