/- Square: the spots of a square track, each reckoned as the code does. -/
import Derived.Test.YtnbdnnbeiohmgaaDoorTkB
import Derived.Test.YtnbdnnbeiohmgaaDoorTkA
import Derived.StillTailTactics
namespace Go.Proofs.YtnbdnnbeiohmgaaDoor
open Go.RowKit

/-- the directions of x, of y, against x and against y -/
def sideXY : Nat → Int × Int
  | 0 => (1, 0)
  | 1 => (0, 1)
  | 2 => (-1, 0)
  | _ => (0, -1)
/-- the variable sides holds them -/
def Sides (w : World) : Prop := ∀ i, i < 4 → w.cell? ⟨0, i * 2, none⟩ = some (.int .i64 (sideXY i).1) ∧ w.cell? ⟨0, i * 2 + 1, none⟩ = some (.int .i64 (sideXY i).2)
/-- the spot behind so many legs -/
def posW (s : Int × Int) (d : Int) : Nat → Int × Int
  | 0 => s
  | i + 1 => (shW (posW s d i).1 (sideXY (i % 4)).1 (wrap64 ((((i / 2 : Nat) : Int) + 1) * d)), shW (posW s d i).2 (sideXY (i % 4)).2 (wrap64 ((((i / 2 : Nat) : Int) + 1) * d)))
def sqW (s : Int × Int) (d : Int) (n : Nat) : List (Int × Int) := (List.range (n + 1)).map (posW s d)
theorem sqW_length (s : Int × Int) (d : Int) (n : Nat) : (sqW s d n).length = n + 1 := by simp [sqW]
theorem sqW_succ (s : Int × Int) (d : Int) (n : Nat) : sqW s d (n + 1) = sqW s d n ++ [posW s d (n + 1)] := by simp [sqW, List.range_succ]
def sqOK (s : Int × Int) (d n : Int) : Bool := okS s && withinB d 1 1048576 && withinB n 1 1023
def sqG (s : Int × Int) (d n : Int) : Bool := sqOK s d n && (sqW s d n.toNat).all okS
def sqE (s : Int × Int) (d n : Int) : Int := if sqG s d n then 0 else 2
theorem sqE_no {s : Int × Int} {d n : Int} (h : sqOK s d n = false) : sqE s d n = 2 := by simp [sqE, sqG, h]
def sqL (s : Int × Int) (d n : Int) : List (Int × Int) := if sqG s d n then sqW s d n.toNat else []

/-- what laid answers -/
def laidE (l : List (Int × Int)) : Int := if l.all okS then 0 else 2
def laidL (l : List (Int × Int)) : List (Int × Int) := if l.all okS then l else []
theorem sqL_no {s : Int × Int} {d n : Int} (h : sqOK s d n = false) : sqL s d n = [] := by simp [sqL, sqG, h]
theorem sq_laid {s : Int × Int} {d : Int} {n : Nat} (h : sqOK s d n = true) : sqE s d n = laidE (sqW s d n) ∧ sqL s d n = laidL (sqW s d n) := by simp only [sqE, sqL, sqG, laidE, laidL, h, Bool.true_and, Int.toNat_natCast]; exact ⟨trivial, trivial⟩
theorem Sides.lt {w : World} (h : Sides w) : 0 < w.heap.size := World.block_lt_of_cell? w _ (h 0 (by omega)).1
theorem Sides.below {w w' : World} (h : Sides w) (hb : Below w.heap.size w w') : Sides w' := fun i hi => ⟨(hb.cell (p := ⟨0, i * 2, none⟩) h.lt).trans (h i hi).1, (hb.cell (p := ⟨0, i * 2 + 1, none⟩) h.lt).trans (h i hi).2⟩

theorem Spots_nil (w : World) : Spots w (.slice none 0 0) [] := ⟨none, 0, rfl, Nat.le_refl _, by unfold maxLen; omega, fun h => absurd h (by simp)⟩

theorem laid_yes {l : List (Int × Int)} (h : l.all okS = true) : laidE l = 0 ∧ laidL l = l := by simp [laidE, laidL, h]
theorem laid_no {l : List (Int × Int)} (h : l.all okS = false) : laidE l = 2 ∧ laidL l = [] := by simp [laidE, laidL, h]
/-- laid: the track, if all of its spots are valid -/
theorem laid_tk (v : Value) (l : List (Int × Int)) (w : World) (h : Spots w v l) :
    Calls Tryd.prog 24 #[v] w fun e w' => (∃ v', e = .returned (.tuple #[v', .int .i64 (laidE l)]) ∧ Spots w' v' (laidL l)) ∧ Below w.heap.size w w' := by
  have hv := valid_tk v l w h
  go_enter Tryd.func24, Tryd.ntmps24
  cases hl : l.all okS with
  | true =>
    rw [hl] at hv
    rw [(laid_yes hl).1, (laid_yes hl).2]
    go_wp2_with fail
    refine hv.mono ?_
    rintro e w1 ⟨rfl, hb⟩
    go_wp2_with fail
    refine bodyPost_ret (v := .tuple #[v, .int .i64 0]) (by simp [results, Tryd.results24, go_sem]) rfl ⟨⟨v, rfl, h.below hb⟩, hb⟩
  | false =>
    rw [hl] at hv
    rw [(laid_no hl).1, (laid_no hl).2]
    go_wp2_with fail
    refine hv.mono ?_
    rintro e w1 ⟨rfl, hb⟩
    go_wp2_with fail
    refine bodyPost_ret (v := .tuple #[.slice none 0 0, .int .i64 2]) (by simp [results, Tryd.results24, go_sem]) rfl ⟨⟨_, rfl, Spots_nil w1⟩, hb⟩

theorem news_lit {W : World} {B : Nat} {cs : Array Value} {t : TypeId} (h : W.heap.size = B) : ∀ j u, cs.toList[j]? = some u → (W.alloc (.cells cs t)).cell? ((⟨B, 0, none⟩ : Addr).add j) = some u := by
  subst h
  exact World.news_of_block (fr := (0, 0)) (heap_alloc_new W _)

set_option maxRecDepth 100000 in
set_option maxHeartbeats 4000000 in
theorem square_tk (x y d n : Int) (w : World) (hs : Sides w) :
    Calls Tryd.prog 7 #[.agg #[.int .i64 x, .int .i64 y], .int .i64 d, .int .i64 n] w fun e w' =>
      (∃ v, e = .returned (.tuple #[v, .int .i64 (sqE (x, y) d n)]) ∧ Spots w' v (sqL (x, y) d n)) ∧ Below w.heap.size w w' := by
  have hin : ∀ w' : World, True := fun _ => trivial
  go_enter Tryd.func7, Tryd.ntmps7
  go_wp2_with fail
  refine (valid_tk _ [(x, y)] _ (Spots_lit _ (w.heap.size + 1) 1 (by simp) _ [(x, y)] _ (by rfl) (by rfl) (by simp [maxLen]))).mono ?_
  rintro e w1 ⟨rfl, hb⟩
  have hone : [(x, y)].all okS = okS (x, y) := by simp
  rw [hone]
  have c0 := hb.cell (p := ⟨w.heap.size, 0, none⟩) (by simp <;> omega)
  have c1 := hb.cell (p := ⟨w.heap.size, 1, none⟩) (by simp <;> omega)
  have f0 := hb.frozen (p := ⟨w.heap.size, 0, none⟩) (by simp <;> omega)
  have f1 := hb.frozen (p := ⟨w.heap.size, 1, none⟩) (by simp <;> omega)
  have hz := hb.size
  simp [go_sem] at c0 c1 f0 f1 hz
  have hbb : Below w.heap.size w w1 := (((Below.refl w.heap.size w).alloc (Nat.le_refl _) (.cells #[.int .i64 x, .int .i64 y] 23)).alloc (by simp <;> omega) _).trans (hb.mono (by simp <;> omega))
  clear hb hone
  cases h1 : okS (x, y) with
  | false =>
    go_wp2_with fail
    refine bodyPost_ret (v := .tuple #[.slice none 0 0, .int .i64 2]) (by simp [results, Tryd.results7, go_sem]) rfl ⟨⟨_, by rw [sqE_no (by simp [sqOK, h1])], by rw [sqL_no (by simp [sqOK, h1])]; exact Spots_nil _⟩, hbb⟩
  | true =>
  go_wp2_with fail
  refine (within_tk _ _ _ _).mono ?_
  rintro e w' ⟨rfl, rfl⟩
  cases h2 : withinB d 1 1048576 with
  | false =>
    go_wp2_with fail
    refine bodyPost_ret (v := .tuple #[.slice none 0 0, .int .i64 2]) (by simp [results, Tryd.results7, go_sem]) rfl ⟨⟨_, by rw [sqE_no (by simp [sqOK, h2])], by rw [sqL_no (by simp [sqOK, h2])]; exact Spots_nil _⟩, hbb⟩
  | true =>
  go_wp2_with fail
  refine (within_tk _ _ _ _).mono ?_
  rintro e w' ⟨rfl, rfl⟩
  cases h3 : withinB n 1 1023 with
  | false =>
    go_wp2_with fail
    refine bodyPost_ret (v := .tuple #[.slice none 0 0, .int .i64 2]) (by simp [results, Tryd.results7, go_sem]) rfl ⟨⟨_, by rw [sqE_no (by simp [sqOK, h3])], by rw [sqL_no (by simp [sqOK, h3])]; exact Spots_nil _⟩, hbb⟩
  | true =>
  have hok : sqOK (x, y) d n = true := by simp [sqOK, h1, h2, h3]
  have hn : 1 ≤ n ∧ n ≤ 1023 := by simpa [withinB] using h3
  obtain ⟨m, rfl⟩ : ∃ m : Nat, n = m := ⟨n.toNat, by omega⟩
  have hs1 : Sides w1 := hs.below hbb
  go_wp2_with fail
  have hown0 : (w1.alloc (.cells #[.int .i64 x, .int .i64 y] 23)).ownsRow (w.heap.size + 1) 23 2 (.slice (some ⟨w1.heap.size, 0, none⟩) 1 1) 1 (flatS (sqW (x, y) d 0)) :=
    World.ownsRow_lit (base := w.heap.size + 1) (e := 23) (size := 2) w1 #[.int .i64 x, .int .i64 y] 1 (by omega) (by simp [maxLen]) rfl
  obtain ⟨W0, hW0⟩ : ∃ W0, w1.alloc (.cells #[.int .i64 x, .int .i64 y] 23) = W0 := ⟨_, rfl⟩
  have b0 : Below w.heap.size w W0 := by rw [← hW0]; exact hbb.alloc (by omega) _
  have c0 : W0.cell? ⟨w.heap.size, 0, none⟩ = some (.int .i64 x) := by rw [← hW0]; exact (World.cell?_alloc_lt w1 _ ⟨w.heap.size, 0, none⟩ (by simp; omega)).trans c0
  have c1 : W0.cell? ⟨w.heap.size, 1, none⟩ = some (.int .i64 y) := by rw [← hW0]; exact (World.cell?_alloc_lt w1 _ ⟨w.heap.size, 1, none⟩ (by simp; omega)).trans c1
  have f0 : W0.frozen? ⟨w.heap.size, 0, none⟩ = false := by rw [← hW0]; exact frozen_alloc_l _ (by omega) f0
  have f1 : W0.frozen? ⟨w.heap.size, 1, none⟩ = false := by rw [← hW0]; exact frozen_alloc_l _ (by omega) f1
  rw [hW0] at hown0 ⊢
  clear hW0 hs1 hbb
  have hs0 := hs.below b0
  obtain ⟨i0, hi, hz0, hz1, hz2⟩ := info_parts infoSpot
  obtain ⟨B, hB⟩ : ∃ B, w.heap.size = B := ⟨_, rfl⟩
  rw [hB] at b0 c0 c1 f0 f1 hown0 ⊢
  go_loopw [8, 27] (fun v i wr => ∃ k : Nat, k ≤ m ∧ i = .int .i64 k ∧ wr.ownsRow (B + 1) 23 2 v (k + 1) (flatS (sqW (x, y) d k)) ∧
      wr.cell? ⟨B, 0, none⟩ = some (.int .i64 (posW (x, y) d k).1) ∧ wr.cell? ⟨B, 1, none⟩ = some (.int .i64 (posW (x, y) d k).2) ∧
      wr.frozen? ⟨B, 0, none⟩ = false ∧ wr.frozen? ⟨B, 1, none⟩ = false ∧ Below B w wr) (fun _ i _ => m - (intOf i).toNat)
  case atStart => exact ⟨0, Nat.zero_le _, rfl, hown0, c0, c1, f0, f1, b0⟩
  case round =>
    obtain ⟨k, hk, rfl, hown, p0, p1, q0, q1, hb⟩ := hrel
    clear hown0 c0 c1 f0 f1 b0 hs0
    subst hB
    have hside := hs.below hb
    obtain ⟨⟨px, py⟩, hpos⟩ : ∃ p, posW (x, y) d k = p := ⟨_, rfl⟩
    rw [hpos] at p0 p1
    dsimp only at p0 p1
    obtain ⟨B, hB⟩ : ∃ B, w.heap.size = B := ⟨_, rfl⟩
    rw [hB] at p0 p1 q0 q1 hb hown ⊢
    by_cases hlt : k < m
    · obtain ⟨r, hr⟩ : ∃ r, k % 4 = r := ⟨_, rfl⟩
      obtain ⟨q, hq⟩ : ∃ q, k / 2 = q := ⟨_, rfl⟩
      have hr4 : r < 4 := by omega
      obtain ⟨⟨u, v⟩, huv⟩ : ∃ p, sideXY r = p := ⟨_, rfl⟩
      have g0 := (hside r hr4).1
      have g1 := (hside r hr4).2
      rw [huv] at g0 g1
      dsimp only at g0 g1
      have er : Int.tmod (k : Int) 4 = (r : Int) := by rw [Int.tmod_eq_emod_of_nonneg (by omega)]; omega
      have eq : Int.tdiv (k : Int) 2 = (q : Int) := by rw [Int.tdiv_eq_ediv_of_nonneg (by omega)]; omega
      have h1 : (0 : Int) ≤ (r : Int) := by omega
      have h2 : (r : Int) < 4 := by omega
      have hkm : (k : Int) < (m : Int) := by omega
      clear hside
      go_wp2_with fail
      go_still_tail 10, (by kernel_rfl)
      change wpList _ _ _ _ _ wr.drew
      have p0' : wr.drew.cell? ⟨B, 0, none⟩ = some (.int .i64 px) := p0
      have p1' : wr.drew.cell? ⟨B, 1, none⟩ = some (.int .i64 py) := p1
      have q0' : wr.drew.frozen? ⟨B, 0, none⟩ = false := q0
      have q1' : wr.drew.frozen? ⟨B, 1, none⟩ = false := q1
      have hownd := hown.drew
      have hbd : Below B w wr.drew := ⟨hb.os, hb.tape, hb.output, hb.size, hb.block⟩
      generalize wr.drew = w2 at p0' p1' q0' q1' hownd hbd ⊢
      clear p0 p1 q0 q1 hown hb g0 g1
      have hB2 : B < w2.heap.size := World.block_lt_of_cell? w2 _ p0'
      go_wp2_with fail
      refine (shifted_tk px py u v _ _).mono ?_
      rintro e w3 ⟨rfl, hb3⟩
      have p0 := (hb3.cell (p := ⟨B, 0, none⟩) hB2).trans p0'
      have p1 := (hb3.cell (p := ⟨B, 1, none⟩) hB2).trans p1'
      have q0 := (hb3.frozen (p := ⟨B, 0, none⟩) hB2).trans q0'
      have q1 := (hb3.frozen (p := ⟨B, 1, none⟩) hB2).trans q1'
      have hown3 := ownsRow_below hownd hb3
      have hbe : Below B w w3 := hbd.trans (hb3.mono (by omega))
      have hz3 := hb3.size
      clear p0' p1' q0' q1' hownd hbd hb3
      obtain ⟨X, hX⟩ : ∃ X, shW px u (wrap64 ((↑q + 1) * d)) = X := ⟨_, rfl⟩
      obtain ⟨Y, hY⟩ : ∃ Y, shW py v (wrap64 ((↑q + 1) * d)) = Y := ⟨_, rfl⟩
      rw [hX, hY]
      have hown4 := (ownsRow_setCell_below (ownsRow_setCell_below hown3 (a := ⟨B, 0, none⟩) (by simp) (.int .i64 X)) (a := ⟨B, 1, none⟩) (by simp) (.int .i64 Y)).alloc (.cells #[.int .i64 X, .int .i64 Y] 23)
      go_wp2_with (at_builtin; refine wpList_append_lies _ rfl _ _ _ rfl (B + 1) 23 i0 _ 2 16 Tryd.underlying27 hi hz0 hz1 hz2 rfl (by omega) u8 (k + 1) (flatS (sqW (x, y) d k)) rfl hown4 ⟨w3.heap.size, 0, none⟩ 1 1 [.int .i64 X, .int .i64 Y] rfl rfl (news_lit (cs := #[.int .i64 X, .int .i64 Y]) (by simp)) (by simp [Value.oneCell']) (by omega) (by unfold maxLen; omega) (by omega) (by simp; omega) (w3.heap.size + 1) (by simp) ?_; intro g cap w5 hown5 hgrow hat hlt5)
      go_roundw
      case rel =>
        have hne : some B ≠ u8.ownBlock := fun hc => by have := (hown3.lt B hc.symm).1; omega
        have hne' : ∀ g, u8.ownBlock = some g → B ≤ g := fun g hg => by have := (hown3.lt g hg).1; omega
        have hpk : posW (x, y) d (k + 1) = (X, Y) := by simp only [posW, hpos, hr, hq, huv]; rw [hX, hY]
        refine ⟨k + 1, by omega, by go_num, ?_, ?_, ?_, ?_, ?_, ?_⟩
        · rw [sqW_succ, flatS_append, hpk]; exact hown5
        · rw [hpk, hgrow.cell_far _ (by simp; omega) hne]
          refine (World.cell?_alloc_lt _ _ ⟨B, 0, none⟩ (by simp; omega)).trans ?_
          simp [go_sem, p0, p1, q0, q1]
        · rw [hpk, hgrow.cell_far _ (by simp; omega) hne]
          refine (World.cell?_alloc_lt _ _ ⟨B, 1, none⟩ (by simp; omega)).trans ?_
          simp [go_sem, p0, p1, q0, q1]
        · rw [hgrow.frozen_far _ (by simp; omega) hne]
          refine frozen_alloc_l (v := .int .i64 X) _ (by simp [go_sem, p0, p1, q0, q1]) (by simp [go_sem, p0, p1, q0, q1])
        · rw [hgrow.frozen_far _ (by simp; omega) hne]
          refine frozen_alloc_l (v := .int .i64 Y) _ (by simp [go_sem, p0, p1, q0, q1]) (by simp [go_sem, p0, p1, q0, q1])
        · exact (((hbe.setCell (p := ⟨B, 0, none⟩) (Nat.le_refl _) _).setCell (p := ⟨B, 1, none⟩) (Nat.le_refl _) _).alloc (by simp; omega) _).trans (below_of_grown hgrow hne' (by simp; omega))
      case measure => simp [intOf]; omega
    · have hkm : k = m := by omega
      subst hkm
      have hfin := Spots_of_own hown (by simp [sqW_length])
      go_wp2_with fail
      refine (laid_tk _ _ _ hfin).mono ?_
      rintro e w2 ⟨⟨v', rfl, hv'⟩, hb2⟩
      rw [← (sq_laid hok).2] at hv'
      go_wp2_with fail
      refine bodyPost_ret (v := .tuple #[v', .int .i64 (laidE (sqW (x, y) d k))]) (by simp [results, Tryd.results7, go_sem]) rfl ⟨⟨v', by rw [(sq_laid hok).1], hv'⟩, ?_⟩
      have := hb.trans (hb2.mono (Nat.le_of_lt (World.block_lt_of_cell? wr _ p0)))
      rwa [← hB] at this
end Go.Proofs.YtnbdnnbeiohmgaaDoor
