/- drift: sea.waters. -/
import Derived.Test.YtnbdnnbeiohmgaaDnGrow
namespace Go.Proofs.Ytnbdnnbeiohmgaa
open Go.RowKit Go.Shelf Go.Lib Go.Maps
attribute [local go_sem] Oper.semAt_some

def watRow (y : Nat) (j : Nat) : List (Int × Int) := (List.range (min j 4)).map fun x : Nat => ((x : Int), (y : Int))
/-- the bay's cells that are not land, row by row, up to one -/
def wat (k j : Nat) : List (Int × Int) := ((List.range k).flatMap fun y => watRow y 5) ++ watRow k j
theorem wat_row (k : Nat) : wat k 5 = wat (k + 1) 0 := by
  unfold wat
  rw [List.range_succ, List.flatMap_append]
  simp [watRow]
theorem wat_add (k j : Nat) (h : j < 4) : wat k (j + 1) = wat k j ++ [((j : Int), (k : Int))] := by
  unfold wat watRow
  rw [show min (j + 1) 4 = j + 1 by omega, show min j 4 = j by omega, List.range_succ, List.map_append, List.append_assoc]
  rfl
theorem wat_same (k : Nat) : wat k 5 = wat k 4 := rfl
theorem wat_len (k j : Nat) : (wat k j).length ≤ k * 4 + 4 := by
  unfold wat
  rw [List.length_append]
  have h1 : (watRow k j).length ≤ 4 := by simp [watRow]; omega
  have h2 : ((List.range k).flatMap fun y => watRow y 5).length ≤ k * 4 := by
    clear h1
    induction k with
    | zero => simp
    | succ k ih =>
      rw [List.range_succ, List.flatMap_append, List.length_append]
      have : ([k].flatMap fun y => watRow y 5).length ≤ 4 := by simp [watRow]
      omega
  omega
/-- the set of the bay's land -/
def LandS : Int → Int → Bool := Plus (fun _ _ => false) (cellsL landB)
theorem landS_at (x y : Nat) (hx : x < 5) (hy : y < 5) : LandS x y = decide (x = 4) := by
  have : ∀ x, x < 5 → ∀ y, y < 5 → LandS ((x : Nat) : Int) ((y : Nat) : Int) = decide (x = 4) := by decide +kernel
  exact this x hx y hy
theorem land_in : inBay (cellsL landB) = true := by decide +kernel
theorem land_ok : checkRs 5 5 100 landB [landB] = true := by decide +kernel

theorem makeSet (w : World) : (Instr.makeMap 210 none).run Try.prog w = .ok (.map (some w.heap.size)) (w.alloc (.map #[] 0)) := by kernel_rfl

set_option maxRecDepth 100000 in
set_option maxHeartbeats 16000000 in
theorem waters_dn (L : Option Addr) (lc b1 b2 : Nat) (w : World) (hL : Runs w (.slice L 5 lc) landB) :
    Calls Try.prog 147 #[.agg #[.int .i64 5, .int .i64 5, .int .i64 100, .slice L 5 lc, .slice (some ⟨b1, 0, none⟩) 1 1, .slice (some ⟨b2, 0, none⟩) 1 1, .int .i64 20, .int .i64 20, .int .i64 10, .int .i64 20, .bool false]] w fun e w' => (∃ A c, e = .returned (.slice A 20 c) ∧ Lst 2 encC w' (.slice A 20 c) (wat 5 0)) ∧ Below w.heap.size w w' := by
  obtain ⟨w0, hw0⟩ : ∃ W', w.alloc (.cells #[.int .i64 5, .int .i64 5, .int .i64 100, .slice L 5 lc, .slice (some ⟨b1, 0, none⟩) 1 1, .slice (some ⟨b2, 0, none⟩) 1 1, .int .i64 20, .int .i64 20, .int .i64 10, .int .i64 20, .bool false] 165) = W' := ⟨_, rfl⟩
  obtain ⟨Z, hZ⟩ : ∃ Z, w.heap.size = Z := ⟨_, rfl⟩
  have k0 : Below w.heap.size w w0 := by rw [← hw0]; exact (Below.refl _ _).alloc (Nat.le_refl _) _
  have s0 : w0.heap.size = Z + 1 := by rw [← hw0, ← hZ]; simp
  have d0 : w0.cell? ⟨Z, 0, none⟩ = some (.int .i64 5) := by rw [← hw0, ← hZ]; simp [go_sem]
  have d1 : w0.cell? ⟨Z, 1, none⟩ = some (.int .i64 5) := by rw [← hw0, ← hZ]; simp [go_sem]
  have d2 : w0.cell? ⟨Z, 2, none⟩ = some (.int .i64 100) := by rw [← hw0, ← hZ]; simp [go_sem]
  have d3 : w0.cell? ⟨Z, 3, none⟩ = some (.slice L 5 lc) := by rw [← hw0, ← hZ]; simp [go_sem]
  obtain ⟨w1, hw1⟩ : ∃ W', w0.alloc (.map #[] 0) = W' := ⟨_, rfl⟩
  have k1 : Below w0.heap.size w0 w1 := by rw [← hw1]; exact (Below.refl _ _).alloc (Nat.le_refl _) _
  have s1 : w1.heap.size = Z + 1 + 1 := by rw [← hw1]; simp [s0]
  have hS1 : SetT w1 (Z + 1) 0 (fun _ _ => false) := by rw [← hw1, ← s0]; exact SetT.made w0
  have d0 := (k1.cell (p := ⟨Z, 0, none⟩) (by show Z < _; omega)).trans d0
  have d1 := (k1.cell (p := ⟨Z, 1, none⟩) (by show Z < _; omega)).trans d1
  have d2 := (k1.cell (p := ⟨Z, 2, none⟩) (by show Z < _; omega)).trans d2
  have d3 := (k1.cell (p := ⟨Z, 3, none⟩) (by show Z < _; omega)).trans d3
  have hL1 := (hL.below k0).below k1
  have HA := Lib.hid (add_dn L L lc 5 lc (Z + 1) 0 (fun _ _ => false) landB w1 hL1 hL1 hS1 land_ok (by decide +kernel) (inBay_i64 land_in))
  have HK1 := Lib.hid (k0.trans (k1.mono k0.size))
  clear k0 k1 hS1 hL1 hL
  have hmk := makeSet w0
  go_enter Try.func147, Try.ntmps147
  go_upto_region 2 with fail
  (try rw [hw1]); (try rw [s0]); (try rw [hw0]); (try rw [hZ])
  have HZ := Lib.hid hZ
  clear hw0 hw1 hZ s0
  go_wp2_with fail
  refine HA.out.mono ?_
  rintro e w2 ⟨rfl, hS, hx⟩
  have d0 := hx.cell (by omega) (by omega) d0
  have d1 := hx.cell (by omega) (by omega) d1
  have d2 := hx.cell (by omega) (by omega) d2
  have d3 := hx.cell (by omega) (by omega) d3
  have s2 := hx.size
  obtain ⟨R, hR⟩ : ∃ R, w2.heap.size = R := ⟨_, rfl⟩
  have HK2 := Lib.hid (HK1.out.trans (hx.below (by have := HZ.out; omega) (by have := HZ.out; omega)))
  have HS := Lib.hid (show SetT w2 (Z + 1) (0 + (cellsL landB).length) LandS from hS)
  rw [hR] at s2
  have HR := Lib.hid hR
  clear hx hS hR HA
  go_wp2_with fail
  go_loopw [4, 19] (fun o i wr => ∃ k : Nat, k ≤ 5 ∧ i = .int .i64 k ∧ wr.ownsRow R 39 2 o (wat k 0).length (flatE encC (wat k 0)) ∧ Below R w2 wr ∧ R ≤ wr.heap.size) (fun _ i _ => 5 - (intOf i).toNat)
  case atStart => exact ⟨0, by omega, rfl, World.ownsRow_nil _ _ _ _, Below.refl _ _, by have := HR.out; omega⟩
  case round =>
    obtain ⟨k, hk, rfl, hown, hb, hz⟩ := hrel
    have d0 := (hb.cell (p := ⟨Z, 0, none⟩) (by show Z < R; omega)).trans d0
    have d1 := (hb.cell (p := ⟨Z, 1, none⟩) (by show Z < R; omega)).trans d1
    by_cases hlt : k < 5
    · have hkl : (k : Int) < 5 := by omega
      go_wp2_with fail
      go_loopw [4, 25] (fun o i wq => ∃ j : Nat, j ≤ 5 ∧ i = .int .i64 j ∧ wq.ownsRow R 39 2 o (wat k j).length (flatE encC (wat k j)) ∧ Below R w2 wq ∧ R ≤ wq.heap.size) (fun _ i _ => 5 - (intOf i).toNat)
      case atStart => exact ⟨0, by omega, rfl, hown, hb, hz⟩
      case round =>
        obtain ⟨j, hj, rfl, hown, hb, hz⟩ := hrel
        by_cases hjl : j < 5
        · have hjl' : (j : Int) < 5 := by omega
          have ix : isI64 (j : Int) := ⟨by omega, by omega⟩
          have iy : isI64 (k : Int) := ⟨by omega, by omega⟩
          have ex : wrap64 ((j : Int) + 1) = (j : Int) + 1 := wrapId _ (by omega) (by omega)
          have hTr := (HS.out.size (hb.mono (Nat.le_of_eq HR.out))).setC.alloc (.cells #[.int .i64 (j : Int), .int .i64 (k : Int)] 39)
          have hTv := landS_at j k hjl hlt
          have HTV := Lib.hid hTv
          have HB := Lib.hid hb
          clear hb hTv
          by_cases hj4 : j < 4
          · have htv : LandS (j : Int) (k : Int) = false := by rw [HTV.out]; simp; omega
            have HTF := Lib.hid htv
            clear htv
            obtain ⟨i0, hi, hz0, hz1, hz2⟩ := info_parts infoC
            have hown4 := (hown.alloc (.cells #[.int .i64 (j : Int), .int .i64 (k : Int)] 39)).alloc (.cells #[.int .i64 (j : Int), .int .i64 (k : Int)] 39)
            have hBq : R ≤ ((wr.alloc (.cells #[.int .i64 (j : Int), .int .i64 (k : Int)] 39)).alloc (.cells #[.int .i64 (j : Int), .int .i64 (k : Int)] 39)).heap.size := by simp; omega
            obtain ⟨q, hq⟩ : ∃ q, (wat k j).length = q := ⟨_, rfl⟩
            have hq2 := wat_len k j
            have hob : ∀ g, u4.ownBlock = some g → R ≤ g ∧ g < wr.heap.size := fun g hg => ownBlock_lt hown hg
            rw [hq] at hown4 hq2
            have HQ := Lib.hid hq
            have HOb := Lib.hid hob
            clear hq hob hown
            go_wp2_with (first | (at_lookup; refine wpList_lookup_setC _ rfl _ _ 210 rfl setTy (Z + 1) _ LandS rfl hTr (j : Int) (k : Int) rfl ix iy ?_; rw [HTF.out]) | (at_builtin; refine wpList_append_lies _ rfl _ _ _ rfl R 39 i0 _ 2 16 Try.underlying36 hi hz0 hz1 hz2 rfl (by omega) u4 q (flatE encC (wat k j)) rfl hown4 ⟨wr.heap.size + 1, 0, none⟩ 1 1 [.int .i64 (j : Int), .int .i64 (k : Int)] rfl rfl (newsLit (cs := #[.int .i64 (j : Int), .int .i64 (k : Int)]) (by simp)) (by simp [Value.oneCell']) (by omega) (by unfold maxLen; omega) (by omega) hBq (wr.heap.size + 1 + 1) (by simp) ?_; intro gg cap5 w7 hown7 hgrow hat hlt7))
            have hs7 := hgrow.size
            simp only [World.size_alloc] at hs7
            go_roundw
            case rel =>
              refine ⟨j + 1, by omega, by go_num, by rw [wat_add k j hj4, flatE_append, List.length_append, HQ.out]; exact hown7, ?_, by omega⟩
              have k2 := (HB.out.alloc (by omega) (.cells #[.int .i64 (j : Int), .int .i64 (k : Int)] 39)).alloc (by simp; omega) (.cells #[.int .i64 (j : Int), .int .i64 (k : Int)] 39)
              exact k2.grown hgrow (by simp; omega) (fun g hg => (HOb.out g hg).1)
            case measure => simp [intOf]; omega
          · obtain rfl : j = 4 := by omega
            have htv : LandS ((4 : Nat) : Int) (k : Int) = true := by rw [HTV.out]; rfl
            have HTF := Lib.hid htv
            have HOw := Lib.hid hown
            clear htv hown
            go_wp2_with (first | (at_lookup; refine wpList_lookup_setC _ rfl _ _ 210 rfl setTy (Z + 1) _ LandS rfl hTr ((4 : Nat) : Int) (k : Int) rfl ix iy ?_; rw [HTF.out]))
            go_roundw
            case rel => exact ⟨5, by omega, by go_num, by rw [wat_same]; exact HOw.out.alloc _, HB.out.alloc (by omega) _, by simp; omega⟩
            case measure => simp [intOf]
        · obtain rfl : j = 5 := by omega
          go_wp2_with fail
          go_roundw
          case rel => exact ⟨k + 1, by omega, by go_num, by rw [← wat_row]; exact hown, hb, hz⟩
          case measure => simp [intOf]; omega
    · obtain rfl : k = 5 := by omega
      have hl := Lst_of_own encC_len hown rfl
      obtain ⟨A, c, hA, -⟩ := id hl
      rw [show (wat 5 0).length = 20 by decide +kernel] at hA
      subst hA
      have HLs := Lib.hid hl
      have HKr := Lib.hid (HK2.out.trans (hb.mono (by have := HR.out; have := HK2.out.size; omega)))
      clear hl hown hb
      go_wp2_with fail
      go_ret
      exact ⟨⟨A, c, rfl, HLs.out⟩, HKr.out⟩
end Go.Proofs.Ytnbdnnbeiohmgaa
