/- Sector: the spots of a sector track, each reckoned as the code does. -/
import Derived.Test.YtnbdnnbeiohmgaaDoorTkSquare
namespace Go.Proofs.YtnbdnnbeiohmgaaDoor
open Go.RowKit

/-- the spots of a sector track, in radii -/
def starXY : List (Int × Int) := [(0, 0), (1, 0), (1, 1), (0, 0), (0, 1), (-1, 1), (0, 0), (-1, 0), (-1, -1), (0, 0), (0, -1), (1, -1), (0, 0)]
/-- the variable star holds them -/
def Star (w : World) : Prop := ∀ i, i < 13 → w.cell? ⟨1, i * 2, none⟩ = some (.int .i64 (starXY.getD i (0, 0)).1) ∧ w.cell? ⟨1, i * 2 + 1, none⟩ = some (.int .i64 (starXY.getD i (0, 0)).2)
def secP (s : Int × Int) (d : Int) (i : Nat) : Int × Int := (shW s.1 (starXY.getD i (0, 0)).1 d, shW s.2 (starXY.getD i (0, 0)).2 d)
def secW (s : Int × Int) (d : Int) (n : Nat) : List (Int × Int) := (List.range n).map (secP s d)
theorem secW_length (s : Int × Int) (d : Int) (n : Nat) : (secW s d n).length = n := by simp [secW]
theorem secW_succ (s : Int × Int) (d : Int) (n : Nat) : secW s d (n + 1) = secW s d n ++ [secP s d n] := by simp [secW, List.range_succ]
def secOK (s : Int × Int) (d n : Int) : Bool := okS s && withinB d 1 1048576 && withinB n 1 12
def secG (s : Int × Int) (d n : Int) : Bool := secOK s d n && (secW s d (n.toNat + 1)).all okS
def secE (s : Int × Int) (d n : Int) : Int := if secG s d n then 0 else 2
theorem secE_no {s : Int × Int} {d n : Int} (h : secOK s d n = false) : secE s d n = 2 := by simp [secE, secG, h]
def secL (s : Int × Int) (d n : Int) : List (Int × Int) := if secG s d n then secW s d (n.toNat + 1) else []
theorem secL_no {s : Int × Int} {d n : Int} (h : secOK s d n = false) : secL s d n = [] := by simp [secL, secG, h]
theorem sec_laid {s : Int × Int} {d : Int} {n : Nat} (h : secOK s d n = true) : secE s d n = laidE (secW s d (n + 1)) ∧ secL s d n = laidL (secW s d (n + 1)) := by simp only [secE, secL, secG, laidE, laidL, h, Bool.true_and, Int.toNat_natCast]; exact ⟨trivial, trivial⟩
theorem Star.lt {w : World} (h : Star w) : 1 < w.heap.size := World.block_lt_of_cell? w _ (h 0 (by omega)).1
theorem Star.below {w w' : World} (h : Star w) (hb : Below w.heap.size w w') : Star w' := fun i hi => ⟨(hb.cell (p := ⟨1, i * 2, none⟩) h.lt).trans (h i hi).1, (hb.cell (p := ⟨1, i * 2 + 1, none⟩) h.lt).trans (h i hi).2⟩

set_option maxRecDepth 100000 in
set_option maxHeartbeats 4000000 in
theorem sector_tk (x y d n : Int) (w : World) (hs : Star w) :
    Calls Tryd.prog 8 #[.agg #[.int .i64 x, .int .i64 y], .int .i64 d, .int .i64 n] w fun e w' =>
      (∃ v, e = .returned (.tuple #[v, .int .i64 (secE (x, y) d n)]) ∧ Spots w' v (secL (x, y) d n)) ∧ Below w.heap.size w w' := by
  have hin : ∀ w' : World, True := fun _ => trivial
  go_enter Tryd.func8, Tryd.ntmps8
  go_wp2_with fail
  refine (valid_tk _ [(x, y)] _ (Spots_lit _ (w.heap.size + 1) 1 (by simp) _ [(x, y)] _ (by rfl) (by rfl) (by simp [maxLen]))).mono ?_
  rintro e w1 ⟨rfl, hb⟩
  have hone : [(x, y)].all okS = okS (x, y) := by simp
  rw [hone]
  have c0 := hb.cell (p := ⟨w.heap.size, 0, none⟩) (by simp <;> omega)
  have c1 := hb.cell (p := ⟨w.heap.size, 1, none⟩) (by simp <;> omega)
  have f0 := hb.frozen (p := ⟨w.heap.size, 0, none⟩) (by simp <;> omega)
  have f1 := hb.frozen (p := ⟨w.heap.size, 1, none⟩) (by simp <;> omega)
  have hz := hb.size
  simp [go_sem] at c0 c1 f0 f1 hz
  have hbb : Below w.heap.size w w1 := (((Below.refl w.heap.size w).alloc (Nat.le_refl _) (.cells #[.int .i64 x, .int .i64 y] 23)).alloc (by simp <;> omega) _).trans (hb.mono (by simp <;> omega))
  clear hb hone
  cases h1 : okS (x, y) with
  | false =>
    go_wp2_with fail
    refine bodyPost_ret (v := .tuple #[.slice none 0 0, .int .i64 2]) (by simp [results, Tryd.results8, go_sem]) rfl ⟨⟨_, by rw [secE_no (by simp [secOK, h1])], by rw [secL_no (by simp [secOK, h1])]; exact Spots_nil _⟩, hbb⟩
  | true =>
  go_wp2_with fail
  refine (within_tk _ _ _ _).mono ?_
  rintro e w' ⟨rfl, rfl⟩
  cases h2 : withinB d 1 1048576 with
  | false =>
    go_wp2_with fail
    refine bodyPost_ret (v := .tuple #[.slice none 0 0, .int .i64 2]) (by simp [results, Tryd.results8, go_sem]) rfl ⟨⟨_, by rw [secE_no (by simp [secOK, h2])], by rw [secL_no (by simp [secOK, h2])]; exact Spots_nil _⟩, hbb⟩
  | true =>
  go_wp2_with fail
  refine (within_tk _ _ _ _).mono ?_
  rintro e w' ⟨rfl, rfl⟩
  cases h3 : withinB n 1 12 with
  | false =>
    go_wp2_with fail
    refine bodyPost_ret (v := .tuple #[.slice none 0 0, .int .i64 2]) (by simp [results, Tryd.results8, go_sem]) rfl ⟨⟨_, by rw [secE_no (by simp [secOK, h3])], by rw [secL_no (by simp [secOK, h3])]; exact Spots_nil _⟩, hbb⟩
  | true =>
  have hok : secOK (x, y) d n = true := by simp [secOK, h1, h2, h3]
  have hn : 1 ≤ n ∧ n ≤ 12 := by simpa [withinB] using h3
  obtain ⟨m, rfl⟩ : ∃ m : Nat, n = m := ⟨n.toNat, by omega⟩
  have hs1 : Star w1 := hs.below hbb
  have hm1 : (0 : Int) ≤ (m : Int) + 1 := by omega
  have hm2 : (m : Int) + 1 ≤ 13 := by omega
  go_wp2_with fail
  obtain ⟨i0, hi, hz0, hz1, hz2⟩ := info_parts infoSpot
  obtain ⟨B, hB⟩ : ∃ B, w.heap.size = B := ⟨_, rfl⟩
  rw [hB] at hbb c0 c1 hz ⊢
  clear f0 f1 hs1
  go_loopw [8, 29] (fun v i wr => ∃ k : Nat, k ≤ m + 1 ∧ i = .int .i64 k ∧ wr.ownsRow (B + 1) 23 2 v k (flatS (secW (x, y) d k)) ∧
      wr.cell? ⟨B, 0, none⟩ = some (.int .i64 x) ∧ wr.cell? ⟨B, 1, none⟩ = some (.int .i64 y) ∧ Below B w wr) (fun _ i _ => m + 1 - (intOf i).toNat)
  case atStart => exact ⟨0, Nat.zero_le _, rfl, World.ownsRow_nil _ _ _ _, c0, c1, hbb⟩
  case round =>
    obtain ⟨k, hk, rfl, hown, p0, p1, hb⟩ := hrel
    clear c0 c1 hbb
    have hB2 : B < wr.heap.size := World.block_lt_of_cell? wr _ p0
    by_cases hlt : k < m + 1
    · subst hB
      have hstar := hs.below hb
      obtain ⟨⟨u, v⟩, huv⟩ : ∃ p, starXY.getD k (0, 0) = p := ⟨_, rfl⟩
      have g0 := (hstar k (by omega)).1
      have g1 := (hstar k (by omega)).2
      rw [huv] at g0 g1
      dsimp only at g0 g1
      obtain ⟨B, hB⟩ : ∃ B, w.heap.size = B := ⟨_, rfl⟩
      rw [hB] at p0 p1 hb hown hB2 ⊢
      have hkm : (k : Int) < (m : Int) + 1 := by omega
      clear hstar
      go_wp2_with fail
      refine (shifted_tk x y u v d _).mono ?_
      rintro e w3 ⟨rfl, hb3⟩
      have p0' := (hb3.cell (p := ⟨B, 0, none⟩) (by simp; omega)).trans ((World.cell?_alloc_lt wr _ ⟨B, 0, none⟩ hB2).trans p0)
      have p1' := (hb3.cell (p := ⟨B, 1, none⟩) (by simp; omega)).trans ((World.cell?_alloc_lt wr _ ⟨B, 1, none⟩ hB2).trans p1)
      have hown3 := ownsRow_below (hown.alloc (.cells #[.int .i64 u, .int .i64 v] 59)) hb3
      have hbe : Below B w w3 := (hb.alloc (by omega) _).trans (hb3.mono (by simp; omega))
      have hz3 := hb3.size
      simp at hz3
      clear hb3 p0 p1 g0 g1 hown hb
      obtain ⟨X, hX⟩ : ∃ X, shW x u d = X := ⟨_, rfl⟩
      obtain ⟨Y, hY⟩ : ∃ Y, shW y v d = Y := ⟨_, rfl⟩
      rw [hX, hY]
      have hown4 := hown3.alloc (.cells #[.int .i64 X, .int .i64 Y] 23)
      go_wp2_with (at_builtin; refine wpList_append_lies _ rfl _ _ _ rfl (B + 1) 23 i0 _ 2 16 Tryd.underlying27 hi hz0 hz1 hz2 rfl (by omega) u8 k (flatS (secW (x, y) d k)) rfl hown4 ⟨w3.heap.size, 0, none⟩ 1 1 [.int .i64 X, .int .i64 Y] rfl rfl (news_lit (cs := #[.int .i64 X, .int .i64 Y]) (by simp)) (by simp [Value.oneCell']) (by omega) (by unfold maxLen; omega) (by omega) (by simp; omega) (w3.heap.size + 1) (by simp) ?_; intro g cap w5 hown5 hgrow hat hlt5)
      go_roundw
      case rel =>
        have hne : some B ≠ u8.ownBlock := fun hc => by have := (hown3.lt B hc.symm).1; omega
        have hne' : ∀ g, u8.ownBlock = some g → B ≤ g := fun g hg => by have := (hown3.lt g hg).1; omega
        have hpk : secP (x, y) d k = (X, Y) := by simp only [secP, huv]; rw [hX, hY]
        refine ⟨k + 1, by omega, by go_num, ?_, ?_, ?_, ?_⟩
        · rw [secW_succ, flatS_append, hpk]; exact hown5
        · rw [hgrow.cell_far _ (by simp; omega) hne]
          exact (World.cell?_alloc_lt _ _ ⟨B, 0, none⟩ (by simp; omega)).trans p0'
        · rw [hgrow.cell_far _ (by simp; omega) hne]
          exact (World.cell?_alloc_lt _ _ ⟨B, 1, none⟩ (by simp; omega)).trans p1'
        · exact (hbe.alloc (by omega) _).trans (below_of_grown hgrow hne' (by simp; omega))
      case measure => simp [intOf]; omega
    · have hkm : k = m + 1 := by omega
      subst hkm
      have hfin := Spots_of_own hown (by simp [secW_length])
      go_wp2_with fail
      refine (laid_tk _ _ _ hfin).mono ?_
      rintro e w2 ⟨⟨v', rfl, hv'⟩, hb2⟩
      rw [← (sec_laid hok).2] at hv'
      go_wp2_with fail
      refine bodyPost_ret (v := .tuple #[v', .int .i64 (laidE (secW (x, y) d (m + 1)))]) (by simp [results, Tryd.results8, go_sem]) rfl ⟨⟨v', by rw [(sec_laid hok).1], hv'⟩, ?_⟩
      have := hb.trans (hb2.mono (Nat.le_of_lt hB2))
      rwa [← hB] at this
end Go.Proofs.YtnbdnnbeiohmgaaDoor
