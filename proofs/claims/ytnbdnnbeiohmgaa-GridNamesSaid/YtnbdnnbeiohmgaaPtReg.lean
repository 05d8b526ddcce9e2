/- grid.(*table).region: what comes lies in a row of the call's own. -/
import Derived.Test.YtnbdnnbeiohmgaaGrB
namespace Go.Proofs.Ytnbdnnbeiohmgaa
open Go.RowKit Go.Shelf Go.Lib

set_option maxRecDepth 100000 in
set_option maxHeartbeats 8000000 in
theorem region_own (b : Nat) (vs : Nat → Value) (f : Nat → List S2) (w : World) (h : Tab w b vs f) (hf : ∀ i, i < 256 → (f i).length ≤ 1000000) (hs : ∀ i, i < 256 → ∀ s, s ∈ f i → 0 ≤ s.1 ∧ s.1 ≤ 256) :
    Calls Try.prog 55 #[.pointer (some ⟨b, 0, none⟩)] w fun e w' =>
      (∃ R, RegOf f R ∧ ∃ v, e = .returned (.tuple #[v, .int .i64 (if R.length ≤ 8192 then 0 else 3)]) ∧ (R.length ≤ 8192 → w'.ownsRow w.heap.size 72 3 v R.length (flatE encR R))) ∧ Below b w w' := by
  go_enter Try.func55, Try.ntmps55
  have hbl := h.lt
  obtain ⟨B, hB⟩ : ∃ B, w.heap.size = B := ⟨_, rfl⟩
  rw [hB] at hbl
  go_wp2_with fail
  go_loopw [4, 11] (fun vo i wr => ∃ k : Nat, k ≤ 256 ∧ i = .int .i64 k ∧ ∃ ms : Nat → List S2, (∀ y, y < k → MergeOf (f y) (ms y)) ∧ wr.ownsRow B 72 3 vo (rowsR ms k).length (flatE encR (rowsR ms k)) ∧
      (∀ i, i < 256 → wr.cell? ⟨b, i, none⟩ = some (vs i)) ∧ (∀ i, k ≤ i → i < 256 → wr.ownsRow (b + 1) 176 2 (vs i) (f i).length (flatE encS (f i))) ∧ Below b w wr) (fun _ i _ => 256 - (intOf i).toNat)
  case atStart => exact ⟨0, by omega, rfl, fun _ => [], fun y hy => by omega, World.ownsRow_nil _ _ _ _, h.cell, fun i _ hi => h.own i hi, Below.refl _ _⟩
  case round =>
    obtain ⟨k, hk, rfl, ms, hms, hout, hcell, hrows, hb⟩ := hrel
    by_cases hlt : k < 256
    · have c0 := hcell k hlt
      have hown := hrows k (Nat.le_refl _) hlt
      have hk0 : (0 : Int) ≤ (k : Int) := by omega
      have hk1 : (k : Int) < 256 := by omega
      obtain ⟨vk, hvk⟩ : ∃ v, vs k = v := ⟨_, rfl⟩
      rw [hvk] at c0 hown
      have HC := Lib.hid hcell
      have HR := Lib.hid hrows
      have HM := Lib.hid hms
      have HT := Lib.hid h
      clear hcell hrows hms h
      go_wp2_with fail
      go_quiet (fail)
      go_wp2_with fail
      have hlk := hf k hlt
      refine (merged_gr vk (f k) (b + 1) (wr.drewN nq) hown (hs k hlt) (by omega)).mono ?_
      rintro e w2 ⟨⟨v2, l', rfl, hp, hso, hm⟩, hg0⟩
      have hg : wr.grownBy w2 vk.ownBlock := ⟨hg0.os, hg0.tape, hg0.output, hg0.size, hg0.block⟩
      have hm : w2.ownsRow wr.heap.size 176 2 v2 (mergeL l').length (flatE encS (mergeL l')) := hm
      clear hg0
      have hvB : ∀ g, vk.ownBlock = some g → b + 1 ≤ g ∧ g < B := fun g hgk => by
        have := ownBlock_lt (HT.out.own k hlt) (by rw [hvk]; exact hgk)
        omega
      have hbsz := hb.size
      have hcell2 := Lib.hid (fun i (hi : i < 256) => (hg.cell_far ⟨b, i, none⟩ (by show b < wr.heap.size; omega) (fun e => by have := (hvB b e.symm).1; omega)).trans (HC.out i hi))
      have hrows2 := Lib.hid (fun i (hki : k + 1 ≤ i) (hi : i < 256) => (HR.out i (by omega) hi).kept hg (by
        cases hv : (vs i).ownBlock with
        | none => exact .inl rfl
        | some g2 => exact .inr fun hh => HT.out.apart i k hi hlt (by omega) g2 hv (by rw [hvk]; exact hh.symm)))
      have hneO : u4.ownBlock = none ∨ u4.ownBlock ≠ vk.ownBlock := by
        cases hv : u4.ownBlock with
        | none => exact .inl rfl
        | some g2 =>
          refine .inr fun hh => ?_
          have h1 := (hvB g2 hh.symm).2
          have h2 := (ownBlock_lt hout hv).1
          omega
      have hout2 := hout.kept hg hneO
      obtain ⟨row0, hrow0⟩ : ∃ r, u4.ownBlock = r := ⟨_, rfl⟩
      have hr0 : ∀ g, row0 = some g → B ≤ g ∧ g < wr.heap.size := fun g hgr => ownBlock_lt hout (by rw [hrow0]; exact hgr)
      have hb2 : Below b w w2 := hb.grown hg (by omega) (fun g hgk => by have := (hvB g hgk).1; omega)
      have hmerge : MergeOf (f k) (mergeL l') := ⟨l', hp, hso, rfl⟩
      have hml := hmerge.length
      obtain ⟨m, hmm⟩ : ∃ m, mergeL l' = m := ⟨_, rfl⟩
      rw [hmm] at hm hmerge hml
      have hRl := rowsR_length HM.out (fun y hy => hf y (by omega))
      have hM2 := Lib.hid hmerge
      clear hmerge hp hso HC HR c0 hown hout
      obtain ⟨q, cap2, rfl⟩ : ∃ q cap2, v2 = .slice q m.length cap2 := by
        rcases hm.2 with ⟨rfl, h0⟩ | ⟨g', cap', cur, rfl, -⟩
        · exact ⟨_, _, by rw [h0]⟩
        · exact ⟨_, _, rfl⟩
      obtain ⟨n, hn⟩ : ∃ n, m.length = n := ⟨_, rfl⟩
      rw [hn] at hm hml ⊢
      go_wp2_with fail
      obtain ⟨R, hR⟩ : ∃ R, rowsR ms k = R := ⟨_, rfl⟩
      rw [hR] at hout2 hRl
      have hgs := hg.size
      have hRl2 : R.length ≤ 256000000 := by
        have : k * 1000000 ≤ 255 * 1000000 := Nat.mul_le_mul_right _ (by omega)
        omega
      obtain ⟨Z, hZ⟩ : ∃ Z, wr.heap.size = Z := ⟨_, rfl⟩
      rw [hZ] at hm hr0 hgs hbsz
      clear hZ
      go_loopw [4, 21] (fun vo i wq => ∃ j : Nat, j ≤ n ∧ i = .int .i64 j ∧ wq.ownsRow B 72 3 vo (R ++ rowR k (m.take j)).length (flatE encR (R ++ rowR k (m.take j))) ∧ w2.grownBy wq row0 ∧ (vo.ownBlock = row0 ∨ ∀ g, vo.ownBlock = some g → w2.heap.size ≤ g)) (fun _ i _ => n - (intOf i).toNat)
      case atStart => exact ⟨0, Nat.zero_le _, rfl, by simpa [rowR] using hout2, ⟨rfl, rfl, rfl, Nat.le_refl _, fun _ _ _ => rfl⟩, .inl hrow0⟩
      case round =>
        obtain ⟨j, hj, rfl, hown, hgq, hor⟩ := hrel
        by_cases hjn : j < n
        · obtain ⟨g3, cap3, hq3, hb3, hl3⟩ := hm.form (by omega)
          simp only [Value.slice.injEq, true_and] at hq3
          obtain ⟨rfl, rfl⟩ := hq3
          have hL := Lst_of_own encS_len hm hn.symm
          obtain ⟨A', c', e', -, -, hcl⟩ := hL
          simp only [Value.slice.injEq] at e'
          obtain ⟨e1, -, -⟩ := e'
          obtain ⟨b', off', e', hbl', hcc⟩ := hcl (by omega)
          rw [← e1] at e'
          cases e'
          clear e1
          obtain ⟨⟨a, t⟩, hx⟩ : ∃ x, m[j]? = some x := ⟨_, List.getElem?_eq_getElem (by omega)⟩
          have hne3 : some g3 ≠ row0 := fun e => by have := (hr0 g3 e.symm).2; omega
          have m0 := (hgq.cell_far ⟨g3, 0 + j * 2 + 0, none⟩ hbl' hne3).trans (hcc j 0 (a, t) _ hx rfl)
          have m1 := (hgq.cell_far ⟨g3, 0 + j * 2 + 1, none⟩ hbl' hne3).trans (hcc j 1 (a, t) _ hx rfl)
          simp only [Nat.zero_add, Nat.add_zero] at m0 m1
          have hqs := hgq.size
          have hg3q : g3 < wr.heap.size := by omega
          have hjn' : (j : Int) < n := by omega
          have HX := Lib.hid hx
          clear hx hcc hcl
          obtain ⟨i0, hi, hz0, hz1, hz2⟩ := info_parts infoRun
          obtain ⟨L, hL⟩ : ∃ L, R ++ rowR k (m.take j) = L := ⟨_, rfl⟩
          rw [hL] at hown
          have hLl : L.length ≤ 257000000 := by rw [← hL]; simp [rowR]; omega
          have hown4 := (hown.alloc (.cells #[.int .i64 a, .int .i64 t] 176)).alloc (.cells #[.int .i64 k, .int .i64 a, .int .i64 t] 72)
          have hBq : B ≤ wr.heap.size := by omega
          go_wp2_with (at_builtin; refine wpList_append_lies _ rfl _ _ _ rfl B 72 i0 _ 3 24 Try.underlying22 hi hz0 hz1 hz2 rfl (by omega) u4 L.length (flatE encR L) rfl hown4 ⟨wr.heap.size + 1, 0, none⟩ 1 1 [.int .i64 k, .int .i64 a, .int .i64 t] rfl rfl (newsLit (cs := #[.int .i64 k, .int .i64 a, .int .i64 t]) (by simp)) (by simp [Value.oneCell']) (by omega) (by unfold maxLen; omega) (by omega) (by simp; omega) (wr.heap.size + 2) (by simp) ?_; intro gg cap5 w5 hown5 hgrow hat hlt5)
          go_roundw
          case rel =>
            have hnew : R ++ rowR k (m.take (j + 1)) = L ++ [((k : Int), a, t)] := by
              rw [← hL, List.take_add_one, HX.out]
              simp [rowR]
            refine ⟨j + 1, by omega, by go_num, ?_, ?_, ?_⟩
            · rw [hnew, flatE_append, List.length_append]
              exact hown5
            · refine ⟨hgrow.os.trans hgq.os, hgrow.tape.trans hgq.tape, hgrow.output.trans hgq.output, by have := hgrow.size; simp at this; omega, fun kk hkk hne => ?_⟩
              have h1 : ((wr.alloc (.cells #[.int .i64 a, .int .i64 t] 176)).alloc (.cells #[.int .i64 k, .int .i64 a, .int .i64 t] 72)).heap[kk]? = wr.heap[kk]? := by
                rw [Below.heap_alloc _ _ _ (by simp; omega), Below.heap_alloc _ _ _ (by omega)]
              refine ((hgrow.block kk (by simp; omega) ?_).trans h1).trans (hgq.block kk hkk hne)
              rcases hor with h | h
              · rw [h]; exact hne
              · intro e
                have := h kk e.symm
                omega
            · rcases hat with h | h
              · rcases hor with h' | h'
                · exact .inl (by rw [← h', h]; rfl)
                · refine .inr fun g hg' => ?_
                  simp [Value.ownBlock] at hg'
                  subst hg'
                  exact h' _ h
              · refine .inr fun g hg' => ?_
                simp [Value.ownBlock] at hg'
                omega
          case measure => simp [intOf]; omega
        · have hjn2 : j = n := by omega
          subst hjn2
          have hne0 : some b ≠ row0 := fun e => by have := (hr0 b e.symm).1; omega
          rw [List.take_of_length_le (by omega)] at hown
          have hms2 : ∀ y, y < k + 1 → MergeOf (f y) (upd ms k m y) := fun y hy => by
            by_cases e : y = k
            · subst e; rw [upd_same]; exact hM2.out
            · rw [upd_other _ _ e]; exact HM.out y (by omega)
          have hRn : rowsR (upd ms k m) (k + 1) = R ++ rowR k m := by rw [rowsR_succ, rowsR_upd, upd_same, hR]
          have hM3 := Lib.hid hms2
          clear hms2
          go_wp2_with fail
          go_roundw
          case rel =>
            refine ⟨k + 1, by omega, by go_num, upd ms k m, hM3.out, by rw [hRn]; exact hown, fun i hi => (hgq.cell_far ⟨b, i, none⟩ (by show b < w2.heap.size; omega) hne0).trans (hcell2.out i hi), fun i hki hi => (hrows2.out i hki hi).kept hgq ?_, hb2.grown hgq (by omega) (fun g hg' => by have := (hr0 g hg').1; omega)⟩
            cases hv : (vs i).ownBlock with
            | none => exact .inl rfl
            | some g2 =>
              refine .inr fun hh => ?_
              have h1 := (ownBlock_lt (HT.out.own i hi) hv).2
              have h2 := (hr0 g2 hh.symm).1
              omega
          case measure => simp [intOf]; omega
    · have hke : k = 256 := by omega
      subst hke
      have hL := Lst_of_own encR_len hout rfl
      obtain ⟨R, hR⟩ : ∃ R, rowsR ms 256 = R := ⟨_, rfl⟩
      have hreg : RegOf f R := ⟨ms, hms, hR.symm⟩
      rw [hR] at hL hout
      have hLs := hL
      obtain ⟨A, cap, rfl, -, -, -⟩ := hL
      have HOWN := Lib.hid hout
      have HG := Lib.hid hreg
      clear hLs hreg hms hrows hcell hout h
      by_cases hlen : R.length ≤ 8192
      · have hlen' : ¬ (8192 : Int) < (R.length : Int) := by omega
        go_wp2_with fail
        refine bodyPost_ret (v := .tuple #[.slice A R.length cap, .int .i64 0]) (by simp [results, Try.results55, go_sem]) rfl ⟨⟨R, HG.out, _, by rw [if_pos hlen], fun _ => HOWN.out⟩, hb⟩
      · have hlen' : (8192 : Int) < (R.length : Int) := by omega
        go_wp2_with fail
        refine bodyPost_ret (v := .tuple #[.slice none 0 0, .int .i64 3]) (by simp [results, Try.results55, go_sem]) rfl ⟨⟨R, HG.out, _, by rw [if_neg hlen], fun h => absurd h hlen⟩, hb⟩
end Go.Proofs.Ytnbdnnbeiohmgaa
