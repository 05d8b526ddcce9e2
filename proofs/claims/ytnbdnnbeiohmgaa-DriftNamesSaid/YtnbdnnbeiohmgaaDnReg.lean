/- drift: set.region. -/
import Derived.Test.YtnbdnnbeiohmgaaDnAdd
import Derived.Test.YtnbdnnbeiohmgaaGsShore
namespace Go.Proofs.Ytnbdnnbeiohmgaa
open Go.RowKit Go.Shelf Go.Lib Go.Maps
attribute [local go_sem] Oper.semAt_some

theorem joinX_len5 (o : List S2) (x : Int) : (joinX o x).length ≤ o.length + 1 := by
  rcases List.eq_nil_or_concat o with rfl | ⟨o', a, rfl⟩
  · simp [joinX]
  · rw [List.concat_eq_append]
    by_cases h : a.2 = x
    · rw [joinX_in h]
      simp
    · rw [joinX_out h]
      simp
theorem runRow_len5 (P : Int → Bool) : ∀ W, (runRow P W).length ≤ W
  | 0 => by simp [runRow]
  | W + 1 => by
    have h1 := runRow_len5 P W
    simp only [runRow]
    split
    · have h2 := joinX_len5 (runRow P W) W
      omega
    · omega
theorem refR_len5 (P : Int → Int → Bool) (W : Nat) : ∀ H, (refR P W H).length ≤ W * H
  | 0 => by simp [refR, rowsR]
  | H + 1 => by
    have h1 := refR_len5 P W H
    have h2 := runRow_len5 (fun x => P x H) W
    unfold refR at h1 ⊢
    rw [rowsR_succ, List.length_append, Nat.mul_succ]
    simp only [rowR, List.length_map]
    omega
/-- the cells of a set that are, or are not, in another one -/
def Sift (S T : Int → Int → Bool) (u : Bool) : Int → Int → Bool := fun x y => S x y && (T x y == u)

set_option maxRecDepth 100000 in
set_option maxHeartbeats 16000000 in
theorem region_dn (L : Option Addr) (lc M N Ml Nl : Nat) (S T : Int → Int → Bool) (u : Bool) (w : World) (hL : Runs w (.slice L 5 lc) landB) (hM : SetT w M N S) (hT : SetT w Ml Nl T) (hN : N ≤ 65536) (hin : ∀ x y, isI64 x → isI64 y → S x y = true → (0 ≤ x ∧ x < 5) ∧ 0 ≤ y ∧ y < 5) (hout : ∀ x y, ¬ (isI64 x ∧ isI64 y) → S x y = false) :
    Calls Try.prog 145 #[.map (some M), .agg #[.int .i64 5, .int .i64 5, .int .i64 100, .slice L 5 lc], .map (some Ml), .bool u] w fun e w' => (∃ A n c, e = .returned (.tuple #[.slice A n c, .int .i64 0]) ∧ Runs w' (.slice A n c) (refR (Sift S T u) 5 5)) ∧ Below w.heap.size w w' := by
  obtain ⟨w0, hw0⟩ : ∃ W', w.alloc (.cells #[.int .i64 5, .int .i64 5, .int .i64 100, .slice L 5 lc] 24) = W' := ⟨_, rfl⟩
  have b0 : Below w.heap.size w w0 := by rw [← hw0]; exact (Below.refl _ _).alloc (Nat.le_refl _) _
  obtain ⟨Z, hZ⟩ : ∃ Z, w.heap.size = Z := ⟨_, rfl⟩
  have s0 : w0.heap.size = Z + 1 := by rw [← hw0, ← hZ]; simp
  have g0 : w0.cell? ⟨Z, 0, none⟩ = some (.int .i64 5) := by rw [← hw0, ← hZ]; simp [go_sem]
  have g1 : w0.cell? ⟨Z, 1, none⟩ = some (.int .i64 5) := by rw [← hw0, ← hZ]; simp [go_sem]
  have g2 : w0.cell? ⟨Z, 2, none⟩ = some (.int .i64 100) := by rw [← hw0, ← hZ]; simp [go_sem]
  have g3 : w0.cell? ⟨Z, 3, none⟩ = some (.slice L 5 lc) := by rw [← hw0, ← hZ]; simp [go_sem]
  have hM0 := hM.size b0
  have hMl := hM.lt
  have HT := Lib.hid (hT.size b0)
  have HL := Lib.hid (hL.below b0)
  have HK := Lib.hid b0
  have HIn := Lib.hid hin
  have HOut := Lib.hid hout
  obtain ⟨D, hown, hSD⟩ := hM0
  have HSD := Lib.hid hSD
  clear b0 hL hM hT hin hout hSD
  go_enter Try.func145, Try.ntmps145
  go_upto_region 1 with fail
  (try rw [hw0]); (try rw [hZ])
  have HZ := Lib.hid hZ
  clear hw0 hZ
  go_wp2_with (at_range; refine wpList_range_own _ rfl _ _ rfl 39 4 lawC setTy (plainElem Try.prog 4) M N D rfl hown ?_; intro w5 hrg hg5 hs5)
  go_frame
  obtain ⟨R, hR⟩ : ∃ R, w0.heap.size = R := ⟨_, rfl⟩
  rw [hR] at hrg hs5 s0 ⊢
  have hb5 : Below R w0 w5 := ⟨hg5.os, hg5.tape, hg5.output, hg5.size, fun k hk => hg5.block k (by omega) (by simp)⟩
  have HR := Lib.hid hR
  clear hg5 hown hR
  subst s0
  go_loopw [10] (fun o wr => ∃ (Q : List (Int × Int)) (left : Lit → Bool) (cnt : Nat), wr.ranges Try.prog 39 (plainElem Try.prog 4) M (Z + 1) N D left cnt ∧ LeftT D Q left ∧ (∀ c, c ∈ Q → (isI64 c.1 ∧ isI64 c.2) ∧ Maps.has D (cellK c.1 c.2) = true) ∧ Q.length + cnt ≤ N ∧ wr.ownsRow (Z + 1 + 1) 39 2 o (Q.filter fun c => T c.1 c.2 == u).length (flatE encC (Q.filter fun c => T c.1 c.2 == u)) ∧ Below (Z + 1) w0 wr ∧ Z + 1 + 1 ≤ wr.heap.size) (fun _ wr => wr.rangeLeft M (Z + 1))
  case atStart => exact ⟨[], _, _, hrg, LeftT.start D, by simp, by have := hrg.owns.size_le; simp; omega, World.ownsRow_nil _ _ _ _, hb5, by omega⟩
  case round =>
    obtain ⟨Q, left, cnt, hrg, hleft, hmem, hlen, hown, hb, hz⟩ := hrel
    go_wp2_with (at_next; refine wpList_next_cells _ rfl _ rfl M (Z + 1) N D left cnt rfl hrg ?_ ?_)
    · intro hc0 hl0
      have hE := fun x y (hx : isI64 x) (hy : isI64 y) (hs : S x y = true) => hleft.done HSD.out hl0 hx hy hs
      have hmemF : ∀ x y, (x, y) ∈ (Q.filter fun c => T c.1 c.2 == u) ↔ Sift S T u x y = true := fun x y => by
        rw [List.mem_filter]
        unfold Sift
        rw [Bool.and_eq_true]
        constructor
        · rintro ⟨h1, h2⟩
          obtain ⟨⟨i1, i2⟩, h⟩ := hmem _ h1
          rw [(HSD.out x y i1 i2).2] at h
          exact ⟨h, h2⟩
        · rintro ⟨h1, h2⟩
          by_cases hi : isI64 x ∧ isI64 y
          · exact ⟨hE x y hi.1 hi.2 h1, h2⟩
          · rw [HOut.out x y hi] at h1
            cases h1
      have hLin : ∀ c, c ∈ (Q.filter fun c => T c.1 c.2 == u) → (0 ≤ c.1 ∧ c.1 < 5) ∧ 0 ≤ c.2 ∧ c.2 < 5 := fun c hc => by
        obtain ⟨⟨i1, i2⟩, h⟩ := hmem _ (List.mem_filter.1 hc).1
        rw [(HSD.out c.1 c.2 i1 i2).2] at h
        exact HIn.out _ _ i1 i2 h
      have hlF : (Q.filter fun c => T c.1 c.2 == u).length ≤ 65536 := by have := List.length_filter_le (fun c : Int × Int => T c.1 c.2 == u) Q; omega
      have hb' : Below w0.heap.size w0 wr := hb.mono (Nat.le_of_eq HR.out)
      have HRg := Lib.hid (gregion_gr 5 5 100 (.slice L 5 lc) u10 landB _ wr (HL.out.below hb') (Lst_of_own encC_len hown rfl) bay_grid hLin hlF)
      have HMF := Lib.hid hmemF
      have HKr := Lib.hid (HK.out.trans (hb'.mono HK.out.size))
      have hR' := HR.out
      have g0 := (hb'.cell (p := ⟨Z, 0, none⟩) (by show Z < _; omega)).trans g0
      have g1 := (hb'.cell (p := ⟨Z, 1, none⟩) (by show Z < _; omega)).trans g1
      have g2 := (hb'.cell (p := ⟨Z, 2, none⟩) (by show Z < _; omega)).trans g2
      have g3 := (hb'.cell (p := ⟨Z, 3, none⟩) (by show Z < _; omega)).trans g3
      clear hE hmemF hLin hleft hl0 hmem hrg hown hb hb'
      go_wp2_with fail
      refine HRg.out.mono ?_
      rintro e w7 ⟨⟨Rr, hRR, v', rfl, hv'⟩, hb7⟩
      have hEq : Rr = refR (Sift S T u) (5 : Int).toNat (5 : Int).toNat := cells_eq2 (by decide) (by decide) HMF.out hRR
      have hlenR : Rr.length ≤ 8192 := by
        rw [hEq]
        have h5 := refR_len5 (Sift S T u) (5 : Int).toNat (5 : Int).toNat
        have h6 : (5 : Int).toNat = 5 := rfl
        rw [h6] at h5 ⊢
        omega
      rw [if_pos hlenR] at hv' ⊢
      subst hEq
      obtain ⟨C, cc, rfl, -⟩ := id hv'
      have HV := Lib.hid hv'
      have HK7 := Lib.hid (HKr.out.trans (hb7.mono HKr.out.size))
      clear hv' hRR hlenR hb7
      go_wp2_with fail
      refine bodyPost_ret (v := .tuple #[.slice C _ cc, .int .i64 0]) (by simp [results, Try.results145, go_sem]) rfl ⟨⟨C, _, cc, rfl, HV.out⟩, HK7.out⟩
    · intro x y v w6 cnt1 hx hy hlx hrg1 hlt1 hg1 hs1 hen
      have hleft1 := hleft.step hx hy
      have hhas : Maps.has D (cellK x y) = true := by
        have h := hleft x y hx hy
        rw [hlx] at h
        have h := h.symm
        rw [Bool.and_eq_true] at h
        exact h.1
      have hob : ∀ g, u10.ownBlock = some g → Z + 1 + 1 ≤ g ∧ g < wr.heap.size := fun g hg => ownBlock_lt hown hg
      have hown1 := hown.kept hg1 (by
        by_cases h : u10.ownBlock = none
        · exact .inl h
        · obtain ⟨g, hg⟩ := Option.ne_none_iff_exists'.1 h
          exact .inr (fun e => by rw [hg] at e; have := (hob g hg).1; cases e; omega))
      have hb1 : Below (Z + 1) w0 w6 := ⟨hg1.os.trans hb.os, hg1.tape.trans hb.tape, hg1.output.trans hb.output, Nat.le_trans hb.size hg1.size, fun k hk => (hg1.block k (by omega) (by simp; omega)).trans (hb.block k hk)⟩
      have hTr := (HT.out.size (hb1.mono (Nat.le_of_eq HR.out))).setC.alloc (.cells #[.int .i64 x, .int .i64 y] 39)
      obtain ⟨i0, hi, hz0, hz1, hz2⟩ := info_parts infoC
      have hown4 := (hown1.alloc (.cells #[.int .i64 x, .int .i64 y] 39)).alloc (.cells #[.int .i64 x, .int .i64 y] 39)
      have hrg3 := hrg1.alloc (.cells #[.int .i64 x, .int .i64 y] 39)
      have hrg4 := hrg3.alloc (.cells #[.int .i64 x, .int .i64 y] 39)
      have hzr6 : Z + 1 + 1 ≤ w6.heap.size := by omega
      have hBq : Z + 1 + 1 ≤ ((w6.alloc (.cells #[.int .i64 x, .int .i64 y] 39)).alloc (.cells #[.int .i64 x, .int .i64 y] 39)).heap.size := by simp; omega
      have hQl : (Q.filter fun c => T c.1 c.2 == u).length ≤ Q.length := List.length_filter_le _ _
      obtain ⟨q, hq⟩ : ∃ q, (Q.filter fun c => T c.1 c.2 == u).length = q := ⟨_, rfl⟩
      have HB1 := Lib.hid hb1
      have HMem := Lib.hid hmem
      have hm0 := hrg.left_eq
      have HM0 := Lib.hid hm0
      have hmem1 : ∀ c, c ∈ Q ++ [(x, y)] → (isI64 c.1 ∧ isI64 c.2) ∧ Maps.has D (cellK c.1 c.2) = true := fun c hc => by
        rcases List.mem_append.1 hc with h | h
        · exact hmem c h
        · rw [List.mem_singleton] at h
          subst h
          exact ⟨⟨hx, hy⟩, hhas⟩
      have HMem1 := Lib.hid hmem1
      have HQ := Lib.hid hq
      have HOb := Lib.hid hob
      have HOwn1 := Lib.hid hown1
      obtain ⟨tv, htv⟩ : ∃ tv, T x y = tv := ⟨_, rfl⟩
      have HTV := Lib.hid htv
      have hMR : M < (Z + 1) := by have := HZ.out; omega
      have HS1 := Lib.hid hs1
      clear hmem hmem1 hm0 hrg hrg1 hb hb1 hown hown1 hhas hg1 hob hs1 hleft
      have hzr7 : Z + 1 + 1 ≤ wr.heap.size := hz
      by_cases htu : tv = u
      · subst htu
        rw [hq] at hown4 hQl
        clear hq htv
        go_wp2_with (first | (at_lookup; refine wpList_lookup_setC _ rfl _ _ 210 rfl setTy Ml Nl T rfl hTr x y rfl hx hy ?_; rw [HTV.out]) | (at_builtin; refine wpList_append_lies _ rfl _ _ _ rfl (Z + 1 + 1) 39 i0 _ 2 16 Try.underlying36 hi hz0 hz1 hz2 rfl (by omega) u10 q (flatE encC (Q.filter fun c => T c.1 c.2 == tv)) rfl hown4 ⟨w6.heap.size + 1, 0, none⟩ 1 1 [.int .i64 x, .int .i64 y] rfl rfl (newsLit (cs := #[.int .i64 x, .int .i64 y]) (by simp)) (by simp [Value.oneCell']) (by omega) (by unfold maxLen; omega) (by omega) hBq (w6.heap.size + 1 + 1) (by simp) ?_; intro gg cap5 w7 hown7 hgrow hat hlt7))
        have hne : ∀ k, k ≤ (Z + 1) → some k ≠ u10.ownBlock := fun k hk e => by have := (HOb.out k e.symm).1; omega
        have hrg7 := hrg4.kept hgrow (hne M (by omega)) (hne (Z + 1) (Nat.le_refl _))
        have hs7 := hgrow.size
        simp only [World.size_alloc] at hs7
        have hf1 : ((Q ++ [(x, y)]).filter fun c => T c.1 c.2 == tv) = (Q.filter fun c => T c.1 c.2 == tv) ++ [(x, y)] := by rw [List.filter_append]; simp [HTV.out]
        go_roundw
        case rel =>
          refine ⟨Q ++ [(x, y)], _, cnt1, hrg7, hleft1, HMem1.out, by simp; omega, by rw [hf1, flatE_append, List.length_append, HQ.out]; exact hown7, ?_, by omega⟩
          have k2 := (HB1.out.alloc (by have := HS1.out; omega) (.cells #[.int .i64 x, .int .i64 y] 39)).alloc (by have := HS1.out; simp; omega) (.cells #[.int .i64 x, .int .i64 y] 39)
          exact k2.grown hgrow (by have := HS1.out; simp; omega) (fun g hg => by have := (HOb.out g hg).1; omega)
        case measure => rw [hrg7.left_eq, HM0.out]; exact hlt1
      · have hbf : (tv == u) = false := by simpa using htu
        clear hq htv
        go_wp2_with (first | (at_lookup; refine wpList_lookup_setC _ rfl _ _ 210 rfl setTy Ml Nl T rfl hTr x y rfl hx hy ?_; rw [HTV.out]))
        have hf1 : ((Q ++ [(x, y)]).filter fun c => T c.1 c.2 == u) = (Q.filter fun c => T c.1 c.2 == u) := by rw [List.filter_append]; simp [HTV.out, hbf]
        go_roundw
        case rel =>
          refine ⟨Q ++ [(x, y)], _, cnt1, hrg3, hleft1, HMem1.out, by simp; omega, by rw [hf1]; exact HOwn1.out.alloc _, HB1.out.alloc (by have := HS1.out; omega) _, by simp; omega⟩
        case measure => rw [hrg3.left_eq, HM0.out]; exact hlt1
end Go.Proofs.Ytnbdnnbeiohmgaa
