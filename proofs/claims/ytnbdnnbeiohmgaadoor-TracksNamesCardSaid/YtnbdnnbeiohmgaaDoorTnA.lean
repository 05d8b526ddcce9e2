/- TracksNames: what the chapter's examples lack; the walk of the law. -/
import Derived.Test.YtnbdnnbeiohmgaaDoorTkSector
import Derived.Test.YtnbdnnbeiohmgaaDoorTkB
import Derived.Test.YtnbdnnbeiohmgaaDoorTrCovers3
import Derived.Test.YtnbdnnbeiohmgaaDoorOtWalk
import Derived.Test.YtnbdnnbeiohmgaaDoorGrAll
namespace Go.Proofs.YtnbdnnbeiohmgaaDoor
open Go.RowKit

set_option maxRecDepth 100000 in
set_option maxHeartbeats 16000000 in
theorem par_long (w : World) :
    Calls Tryd.prog 16 #[.agg #[.int .i64 0, .int .i64 0], .agg #[.int .i64 1, .int .i64 2000], .int .i64 1, .int .i64 0] w fun e w' =>
      e = .returned (.tuple #[.slice none 0 0, .int .i64 3]) ∧ Below w.heap.size w w' := by
  go_enter Tryd.func16, Tryd.ntmps16
  go_wp2_with fail
  refine (valid_tk _ [(0, 0), (1, 2000)] _ (Spots_two _ _ (by simp) _ _ _ _ _)).mono ?_
  rintro e w1 ⟨rfl, hb⟩
  rw [show [((0 : Int), (0 : Int)), (1, 2000)].all okS = true from by decide +kernel]
  have c0 := hb.cell (p := ⟨w.heap.size, 0, none⟩) (by simp <;> omega)
  have c1 := hb.cell (p := ⟨w.heap.size, 1, none⟩) (by simp <;> omega)
  have c2 := hb.cell (p := ⟨w.heap.size + 1, 0, none⟩) (by simp <;> omega)
  have c3 := hb.cell (p := ⟨w.heap.size + 1, 1, none⟩) (by simp <;> omega)
  have f0 := hb.frozen (p := ⟨w.heap.size, 0, none⟩) (by simp <;> omega)
  have f1 := hb.frozen (p := ⟨w.heap.size, 1, none⟩) (by simp <;> omega)
  have f2 := hb.frozen (p := ⟨w.heap.size + 1, 0, none⟩) (by simp <;> omega)
  have f3 := hb.frozen (p := ⟨w.heap.size + 1, 1, none⟩) (by simp <;> omega)
  have hz := hb.size
  simp [go_sem] at c0 c1 c2 c3 f0 f1 f2 f3 hz
  have hbb : Below w.heap.size w w1 := ((((Below.refl w.heap.size w).alloc (Nat.le_refl _) (.cells #[.int .i64 0, .int .i64 0] 23)).alloc (by simp <;> omega) (.cells #[.int .i64 1, .int .i64 2000] 23)).alloc (by simp <;> omega) _).trans (hb.mono (by simp <;> omega))
  clear hb
  go_wp2_with fail
  refine (within_tk _ _ _ _).mono ?_
  rintro e w' ⟨rfl, rfl⟩
  rw [show withinB 1 1 1048576 = true from rfl]
  go_wp2_with fail
  refine (within_tk _ _ _ _).mono ?_
  rintro e w' ⟨rfl, rfl⟩
  rw [show withinB 0 0 1 = true from rfl]
  go_wp2_with fail
  refine (turned_0 _).mono ?_
  rintro e w' ⟨rfl, rfl⟩
  go_wp2_with fail
  go_region_held3 (fun W' => W'.cell? ⟨w.heap.size, 0, none⟩ = some (.int .i64 0) ∧ W'.cell? ⟨w.heap.size, 1, none⟩ = some (.int .i64 0) ∧ W'.cell? ⟨w.heap.size + 1, 0, none⟩ = some (.int .i64 1) ∧ W'.cell? ⟨w.heap.size + 1, 1, none⟩ = some (.int .i64 2000))
    (first | exact ⟨c0, c1, c2, c3⟩ | exact ⟨d0, d1, d2, d3⟩ | exact ⟨e0, e1, e2, e3⟩ | (simp [go_sem, e0, e1, e2, e3]; done))
    (first | (go_at_call 57; (with_reducible refine (same_tk 0 0 _).mono ?_); rintro e wa ⟨rfl, hba⟩; have hza : w1.heap.size ≤ wa.heap.size := hba.size; have d0 := (hba.cell (p := ⟨w.heap.size, 0, none⟩) (by simp <;> omega)).trans c0; have d1 := (hba.cell (p := ⟨w.heap.size, 1, none⟩) (by simp <;> omega)).trans c1; have d2 := (hba.cell (p := ⟨w.heap.size + 1, 0, none⟩) (by simp <;> omega)).trans c2; have d3 := (hba.cell (p := ⟨w.heap.size + 1, 1, none⟩) (by simp <;> omega)).trans c3; have g0 := (hba.frozen (p := ⟨w.heap.size, 0, none⟩) (by simp <;> omega)).trans f0; have g1 := (hba.frozen (p := ⟨w.heap.size, 1, none⟩) (by simp <;> omega)).trans f1; have g2 := (hba.frozen (p := ⟨w.heap.size + 1, 0, none⟩) (by simp <;> omega)).trans f2; have g3 := (hba.frozen (p := ⟨w.heap.size + 1, 1, none⟩) (by simp <;> omega)).trans f3; skip) | (go_at_call 57; (with_reducible refine (same_tk 1 2000 _).mono ?_); rintro e wb ⟨rfl, hbd⟩; have hzb : wa.heap.size ≤ wb.heap.size := hbd.size; have e0 := (hbd.cell (p := ⟨w.heap.size, 0, none⟩) (by simp <;> omega)).trans d0; have e1 := (hbd.cell (p := ⟨w.heap.size, 1, none⟩) (by simp <;> omega)).trans d1; have e2 := (hbd.cell (p := ⟨w.heap.size + 1, 0, none⟩) (by simp <;> omega)).trans d2; have e3 := (hbd.cell (p := ⟨w.heap.size + 1, 1, none⟩) (by simp <;> omega)).trans d3; have k0 := (hbd.frozen (p := ⟨w.heap.size, 0, none⟩) (by simp <;> omega)).trans g0; have k1 := (hbd.frozen (p := ⟨w.heap.size, 1, none⟩) (by simp <;> omega)).trans g1; have k2 := (hbd.frozen (p := ⟨w.heap.size + 1, 0, none⟩) (by simp <;> omega)).trans g2; have k3 := (hbd.frozen (p := ⟨w.heap.size + 1, 1, none⟩) (by simp <;> omega)).trans g3; skip))
  rename_i hHeld
  clear hHeld
  have k4 : ∃ W4, ((((wb.setCell ⟨w.heap.size, 0, none⟩ (.int .i64 0)).setCell ⟨w.heap.size, 1, none⟩ (.int .i64 0)).setCell ⟨w.heap.size + 1, 0, none⟩ (.int .i64 1)).setCell ⟨w.heap.size + 1, 1, none⟩ (.int .i64 2000)) = W4 := ⟨_, rfl⟩
  obtain ⟨W4, hW4⟩ := k4
  rw [hW4]
  have q0 : W4.cell? ⟨w.heap.size, 0, none⟩ = some (.int .i64 0) := by rw [← hW4]; simp [go_sem, e0, e1, e2, e3]
  have q1 : W4.cell? ⟨w.heap.size, 1, none⟩ = some (.int .i64 0) := by rw [← hW4]; simp [go_sem, e0, e1, e2, e3]
  have q2 : W4.cell? ⟨w.heap.size + 1, 0, none⟩ = some (.int .i64 1) := by rw [← hW4]; simp [go_sem, e0, e1, e2, e3]
  have q3 : W4.cell? ⟨w.heap.size + 1, 1, none⟩ = some (.int .i64 2000) := by rw [← hW4]; simp [go_sem, e0, e1, e2, e3]
  have qb : Below w.heap.size w W4 := by
    rw [← hW4]
    have h1 : Below w.heap.size w1 wa := ⟨hba.os, hba.tape, hba.output, hba.size, fun k hk => hba.block k (Nat.lt_of_lt_of_le hk hbb.size)⟩
    exact (((((hbb.trans h1).trans (hbd.mono (by omega))).setCell (p := ⟨w.heap.size, 0, none⟩) (Nat.le_refl _) _).setCell (p := ⟨w.heap.size, 1, none⟩) (Nat.le_refl _) _).setCell (p := ⟨w.heap.size + 1, 0, none⟩) (by simp) _).setCell (p := ⟨w.heap.size + 1, 1, none⟩) (by simp) _
  have qz : w.heap.size + 1 + 1 ≤ W4.heap.size := by rw [← hW4]; simp [World.setCell]; omega
  clear hW4 c0 c1 c2 c3 f0 f1 f2 f3 d0 d1 d2 d3 g0 g1 g2 g3 e0 e1 e2 e3 k0 k1 k2 k3 hba hbd hza hzb hbb hz
  go_wp2_with fail
  exact bodyPost_ret (v := .tuple #[.slice none 0 0, .int .i64 3]) (by simp [results, Tryd.results16, go_sem]) rfl ⟨rfl, qb⟩

set_option maxRecDepth 100000 in
set_option maxHeartbeats 2000000 in
theorem seconds_08 (v : Value) (w : World) (h : Spots w v legs08) :
    Calls Tryd.prog 14 #[v, .int .i64 1000] w fun e w' => e = .returned (.tuple #[.int .i64 6, .int .i64 0]) ∧ Below w.heap.size w w' := by
  have HL := Lib.hid (length_08 v w h)
  clear h
  go_enter Tryd.func14, Tryd.ntmps14
  go_wp2_with fail
  refine HL.out.mono ?_
  rintro e w1 ⟨rfl, hb1⟩
  go_wp2_with fail
  refine (within_tk _ _ _ _).mono ?_
  rintro e w' ⟨rfl, rfl⟩
  rw [show withinB 1000 1 1048576 = true from rfl]
  go_wp2_with fail
  exact bodyPost_ret (v := .tuple #[.int .i64 6, .int .i64 0]) (by simp [results, Tryd.results14, go_sem]) rfl ⟨rfl, hb1⟩

/-- how many cells runs have, as the program reckons it -/
def cntW (l : List R3) : Int := l.foldl (fun n r => wrap64 (n + wrap64 (max r.2.1 r.2.2 - r.2.1))) 0
theorem cntW_take {l : List R3} {k : Nat} {r : R3} (h : l[k]? = some r) : cntW (l.take (k + 1)) = wrap64 (cntW (l.take k) + wrap64 (max r.2.1 r.2.2 - r.2.1)) := by
  unfold cntW
  rw [List.take_add_one, h]
  simp
set_option maxRecDepth 100000 in
set_option maxHeartbeats 2000000 in
theorem count_gr (v : Value) (l : List R3) (w : World) (h : Runs w v l) :
    Calls Tryd.prog 19 #[v] w fun e w' => e = .returned (.int .i64 (cntW l)) ∧ Below w.heap.size w w' := by
  obtain ⟨A1, c1, rfl, h1, h2, h3⟩ := h
  unfold maxLen at h2
  go_enter Tryd.func19, Tryd.ntmps19
  go_wp2_with fail
  go_loopw [3, 8] (fun n i wr => ∃ k : Nat, k ≤ l.length ∧ i = .int .i64 k ∧ n = .int .i64 (cntW (l.take k)) ∧ Below w.heap.size w wr) (fun _ i _ => l.length - (intOf i).toNat)
  case atStart => exact ⟨0, Nat.zero_le _, rfl, rfl, Below.refl _ _⟩
  case round =>
    obtain ⟨k, hk, rfl, rfl, hb⟩ := hrel
    by_cases hlt : k < l.length
    · obtain ⟨b1, o1, rfl, hl1, m⟩ := h3 (by omega)
      obtain ⟨⟨y, f, t⟩, hx⟩ : ∃ x, l[k]? = some x := ⟨_, List.getElem?_eq_getElem hlt⟩
      have m0 := (hb.cell (p := ⟨b1, o1 + k * 3, none⟩) hl1).trans (m k 0 _ _ hx rfl)
      have m1 := (hb.cell (p := ⟨b1, o1 + k * 3 + 1, none⟩) hl1).trans (m k 1 _ _ hx rfl)
      have m2 := (hb.cell (p := ⟨b1, o1 + k * 3 + 2, none⟩) hl1).trans (m k 2 _ _ hx rfl)
      have HT := Lib.hid (cntW_take hx)
      have hk1 : (k : Int) < (l.length : Int) := by omega
      obtain ⟨N, hN⟩ : ∃ N, cntW (l.take k) = N := ⟨_, rfl⟩
      rw [hN] at HT ⊢
      have hbs := hb.size
      have HB := Lib.hid hb
      clear m hx h3 hN hb
      go_wp2_with fail
      go_roundw
      case rel => exact ⟨k + 1, by omega, by go_num, by rw [HT.out], HB.out.alloc hbs _⟩
      case measure => simp [intOf]; omega
    · have hke : k = l.length := by omega
      subst hke
      rw [List.take_of_length_le (Nat.le_refl _)]
      go_wp2_with fail
      go_ret
      exact ⟨rfl, hb⟩
end Go.Proofs.YtnbdnnbeiohmgaaDoor
