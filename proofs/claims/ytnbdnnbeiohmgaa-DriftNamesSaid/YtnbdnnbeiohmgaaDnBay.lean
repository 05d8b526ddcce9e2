/- cressetlaw04.bay. -/
import Derived.Test.YtnbdnnbeiohmgaaDnB
import Derived.Laws.EntriesVeiled
namespace Go.Proofs.Ytnbdnnbeiohmgaa
open Go.RowKit Go.Shelf Go.Lib
attribute [local go_sem] Oper.semAt_some

def allK (k : Nat) : List R3 := (List.range k).map fun j : Nat => ((j : Int), (0 : Int), (5 : Int))
def landK (k : Nat) : List R3 := (List.range k).map fun j : Nat => ((j : Int), (4 : Int), (5 : Int))
theorem allK_succ (k : Nat) : allK (k + 1) = allK k ++ [((k : Int), 0, 5)] := by simp [allK, List.range_succ]
theorem landK_succ (k : Nat) : landK (k + 1) = landK k ++ [((k : Int), 4, 5)] := by simp [landK, List.range_succ]
theorem allK_len (k : Nat) : (allK k).length = k := by simp [allK]
theorem landK_len (k : Nat) : (landK k).length = k := by simp [landK]

set_option maxRecDepth 100000 in
set_option maxHeartbeats 8000000 in
theorem bay_dn (w : World) : Calls Try.prog 43 #[] w fun e w' =>
    (∃ L lc b1 b2 A c, e = .returned (.agg #[.int .i64 5, .int .i64 5, .int .i64 100, .slice L 5 lc, .slice (some ⟨b1, 0, none⟩) 1 1, .slice (some ⟨b2, 0, none⟩) 1 1, .int .i64 20, .int .i64 20, .int .i64 10, .int .i64 20, .bool false]) ∧ Bay w' L lc b1 b2 A c) ∧ Below w.heap.size w w' := by
  obtain ⟨Z, hZ⟩ : ∃ Z, w.heap.size = Z := ⟨_, rfl⟩
  obtain ⟨w0, hw0⟩ : ∃ W', w.alloc (.cells #[.int .i64 0, .int .i64 0, .int .i64 0, .slice none 0 0, .slice none 0 0, .slice none 0 0, .int .i64 0, .int .i64 0, .int .i64 0, .int .i64 0, .bool false] 84) = W' := ⟨_, rfl⟩
  have k0 : Below Z w w0 := by rw [← hw0, ← hZ]; exact (Below.refl _ _).alloc (Nat.le_refl _) _
  have s0 : w0.heap.size = Z + 1 := by rw [← hw0, ← hZ]; simp
  have c0 : w0.cell? ⟨Z, 0, none⟩ = some (.int .i64 0) := by rw [← hw0, ← hZ]; simp [go_sem]
  have c1 : w0.cell? ⟨Z, 1, none⟩ = some (.int .i64 0) := by rw [← hw0, ← hZ]; simp [go_sem]
  have c2 : w0.cell? ⟨Z, 2, none⟩ = some (.int .i64 0) := by rw [← hw0, ← hZ]; simp [go_sem]
  have c3 : w0.cell? ⟨Z, 3, none⟩ = some (.slice none 0 0) := by rw [← hw0, ← hZ]; simp [go_sem]
  have c4 : w0.cell? ⟨Z, 4, none⟩ = some (.slice none 0 0) := by rw [← hw0, ← hZ]; simp [go_sem]
  have c5 : w0.cell? ⟨Z, 5, none⟩ = some (.slice none 0 0) := by rw [← hw0, ← hZ]; simp [go_sem]
  have c6 : w0.cell? ⟨Z, 6, none⟩ = some (.int .i64 0) := by rw [← hw0, ← hZ]; simp [go_sem]
  have c7 : w0.cell? ⟨Z, 7, none⟩ = some (.int .i64 0) := by rw [← hw0, ← hZ]; simp [go_sem]
  have c8 : w0.cell? ⟨Z, 8, none⟩ = some (.int .i64 0) := by rw [← hw0, ← hZ]; simp [go_sem]
  have c9 : w0.cell? ⟨Z, 9, none⟩ = some (.int .i64 0) := by rw [← hw0, ← hZ]; simp [go_sem]
  have c10 : w0.cell? ⟨Z, 10, none⟩ = some (.bool false) := by rw [← hw0, ← hZ]; simp [go_sem]
  have f0 : w0.frozen? ⟨Z, 0, none⟩ = false := by rw [← hw0, ← hZ]; simp [go_sem]
  have f1 : w0.frozen? ⟨Z, 1, none⟩ = false := by rw [← hw0, ← hZ]; simp [go_sem]
  have f2 : w0.frozen? ⟨Z, 2, none⟩ = false := by rw [← hw0, ← hZ]; simp [go_sem]
  have f3 : w0.frozen? ⟨Z, 3, none⟩ = false := by rw [← hw0, ← hZ]; simp [go_sem]
  have f4 : w0.frozen? ⟨Z, 4, none⟩ = false := by rw [← hw0, ← hZ]; simp [go_sem]
  have f5 : w0.frozen? ⟨Z, 5, none⟩ = false := by rw [← hw0, ← hZ]; simp [go_sem]
  have f6 : w0.frozen? ⟨Z, 6, none⟩ = false := by rw [← hw0, ← hZ]; simp [go_sem]
  have f7 : w0.frozen? ⟨Z, 7, none⟩ = false := by rw [← hw0, ← hZ]; simp [go_sem]
  have f8 : w0.frozen? ⟨Z, 8, none⟩ = false := by rw [← hw0, ← hZ]; simp [go_sem]
  have f9 : w0.frozen? ⟨Z, 9, none⟩ = false := by rw [← hw0, ← hZ]; simp [go_sem]
  have f10 : w0.frozen? ⟨Z, 10, none⟩ = false := by rw [← hw0, ← hZ]; simp [go_sem]
  have HK0 := Lib.hid k0
  clear k0
  go_enter Try.func43, Try.ntmps43
  go_upto_region 1 with fail
  (try rw [hw0]); (try rw [hZ])
  clear hw0
  have HZ := Lib.hid hZ
  clear hZ
  go_wp2_with fail
  go_loopw [1, 2, 6] (fun o1 o2 i wr => ∃ k : Nat, k ≤ 5 ∧ i = .int .i64 k ∧ wr.ownsRow (Z + 1) 72 3 o1 k (flatE encR (allK k)) ∧ wr.ownsRow (Z + 1) 72 3 o2 k (flatE encR (landK k)) ∧ (∀ g h, o1.ownBlock = some g → o2.ownBlock = some h → g ≠ h) ∧ Below (Z + 1) w0 wr ∧ Z + 1 ≤ wr.heap.size) (fun _ _ i _ => 5 - (intOf i).toNat)
  case atStart => exact ⟨0, by omega, rfl, World.ownsRow_nil _ _ _ _, World.ownsRow_nil _ _ _ _, fun g h hg => by simp [Value.ownBlock] at hg, Below.refl _ _, by omega⟩
  case round =>
    obtain ⟨k, hk, rfl, ow1, ow2, hne, hb, hz⟩ := hrel
    by_cases hlt : k < 5
    · have hlt' : (k : Int) < 5 := by omega
      have ex : wrap64 ((k : Int) + 1) = (k : Int) + 1 := wrapId _ (by omega) (by omega)
      obtain ⟨i0, hi, hz0, hz1, hz2⟩ := info_parts infoRun
      have ow1' := ow1.alloc (.cells #[.int .i64 (k : Int), .int .i64 0, .int .i64 5] 72)
      have ow2' := ow2.alloc (.cells #[.int .i64 (k : Int), .int .i64 0, .int .i64 5] 72)
      have HNE := Lib.hid hne
      clear hne
      go_upto_region 6 with (at_builtin; refine wpList_append_lies _ rfl _ _ _ rfl (Z + 1) 72 i0 _ 3 24 Try.underlying22 hi hz0 hz1 hz2 rfl (by omega) _ k (flatE encR (allK k)) rfl ow1' ⟨wr.heap.size, 0, none⟩ 1 1 [.int .i64 (k : Int), .int .i64 0, .int .i64 5] rfl rfl (newsLit (cs := #[.int .i64 (k : Int), .int .i64 0, .int .i64 5]) (by simp)) (by simp [Value.oneCell']) (by omega) (by unfold maxLen; omega) (by omega) (by simp; omega) (wr.heap.size + 1) (by simp) ?_; intro g5 cap5 w5 hown5 hgrow5 hat5 hlt5)
      have hl1 : ∀ g, u1.ownBlock = some g → Z + 1 ≤ g ∧ g < wr.heap.size := fun g hg => ownBlock_lt ow1 hg
      have hl2 : ∀ g, u2.ownBlock = some g → Z + 1 ≤ g ∧ g < wr.heap.size := fun g hg => ownBlock_lt ow2 hg
      have ow2k := ow2'.kept hgrow5 (by
        by_cases h : u2.ownBlock = none
        · exact .inl h
        · obtain ⟨g, hg⟩ := Option.ne_none_iff_exists'.1 h
          exact .inr fun e => HNE.out g g (show u1.ownBlock = some g from e.symm.trans hg) hg rfl)
      have hne5 : ∀ h, u2.ownBlock = some h → g5 ≠ h := fun h hh e => by
        rcases hat5 with e5 | e5
        · exact HNE.out g5 h e5 hh e
        · have := (hl2 h hh).2
          omega
      have hb5 : Below (Z + 1) w0 w5 := (hb.alloc (by omega) _).grown hgrow5 (by simp; omega) (fun q hq => (hl1 _ hq).1)
      have hz5 : Z + 1 ≤ w5.heap.size := by have := hgrow5.size; simp at this; omega
      have HNE5 := Lib.hid hne5
      have HL2 := Lib.hid hl2
      have ow5' := hown5.alloc (.cells #[.int .i64 (k : Int), .int .i64 4, .int .i64 5] 72)
      have ow6' := ow2k.alloc (.cells #[.int .i64 (k : Int), .int .i64 4, .int .i64 5] 72)
      clear hne5 hl1 hl2 ow1 ow2 ow1' ow2' hgrow5 hat5 hb
      go_wp2_with (at_builtin; refine wpList_append_lies _ rfl _ _ _ rfl (Z + 1) 72 i0 _ 3 24 Try.underlying22 hi hz0 hz1 hz2 rfl (by omega) _ k (flatE encR (landK k)) rfl ow6' ⟨w5.heap.size, 0, none⟩ 1 1 [.int .i64 (k : Int), .int .i64 4, .int .i64 5] rfl rfl (newsLit (cs := #[.int .i64 (k : Int), .int .i64 4, .int .i64 5]) (by simp)) (by simp [Value.oneCell']) (by omega) (by unfold maxLen; omega) (by omega) (by simp; omega) (w5.heap.size + 1) (by simp) ?_; intro g6 cap6 w6 hown6 hgrow6 hat6 hlt6)
      have ow5k := ow5'.kept hgrow6 (.inr fun e => HNE5.out g5 e.symm rfl)
      have hb6 : Below (Z + 1) w0 w6 := (hb5.alloc (by omega) _).grown hgrow6 (by simp; omega) (fun q hq => (HL2.out _ hq).1)
      have hz6 : Z + 1 ≤ w6.heap.size := by have := hgrow6.size; simp at this; omega
      have hne6 : g5 ≠ g6 := fun e => by
        rcases hat6 with e6 | e6
        · exact HNE5.out g6 e6 e
        · omega
      have q1 : w6.ownsRow (Z + 1) 72 3 (.slice (some ⟨g5, 0, none⟩) (k + 1) cap5) (k + 1) (flatE encR (allK (k + 1))) := by rw [allK_succ, flatE_append]; exact ow5k
      have q2 : w6.ownsRow (Z + 1) 72 3 (.slice (some ⟨g6, 0, none⟩) (k + 1) cap6) (k + 1) (flatE encR (landK (k + 1))) := by rw [landK_succ, flatE_append]; exact hown6
      go_roundw
      case rel => exact ⟨k + 1, by omega, by go_num, q1, q2, fun g h hg hh => by simp [Value.ownBlock] at hg hh; omega, hb6, hz6⟩
      case measure => simp [intOf]; omega
    · obtain rfl : k = 5 := by omega
      obtain ⟨A1, c1', hA1⟩ : ∃ A c, u1 = .slice A 5 c := by
        rcases ow1.2 with ⟨e, e2⟩ | ⟨g, cap, cur, e, -⟩
        · exact ⟨none, 0, by rw [e, e2]⟩
        · exact ⟨_, _, e⟩
      obtain ⟨A2, c2', hA2⟩ : ∃ A c, u2 = .slice A 5 c := by
        rcases ow2.2 with ⟨e, e2⟩ | ⟨g, cap, cur, e, -⟩
        · exact ⟨none, 0, by rw [e, e2]⟩
        · exact ⟨_, _, e⟩
      subst hA1 hA2
      have r1 : Runs wr (.slice A1 5 c1') allB := Lst_of_own encR_len (l := allK 5) ow1 rfl
      have r2 : Runs wr (.slice A2 5 c2') landB := Lst_of_own encR_len (l := landK 5) ow2 rfl
      have HG1 := Lib.hid (show ∀ g, (Value.slice A1 5 c1').ownBlock = some g → g ≠ Z from fun g hg => by have := (ownBlock_lt ow1 hg).1; omega)
      have HG2 := Lib.hid (show ∀ g, (Value.slice A2 5 c2').ownBlock = some g → g ≠ Z from fun g hg => by have := (ownBlock_lt ow2 hg).1; omega)
      have HR1 := Lib.hid r1
      have HR2 := Lib.hid r2
      have c0 := (hb.cell (p := ⟨Z, 0, none⟩) (by show Z < _; omega)).trans c0
      have c1 := (hb.cell (p := ⟨Z, 1, none⟩) (by show Z < _; omega)).trans c1
      have c2 := (hb.cell (p := ⟨Z, 2, none⟩) (by show Z < _; omega)).trans c2
      have c3 := (hb.cell (p := ⟨Z, 3, none⟩) (by show Z < _; omega)).trans c3
      have c4 := (hb.cell (p := ⟨Z, 4, none⟩) (by show Z < _; omega)).trans c4
      have c5 := (hb.cell (p := ⟨Z, 5, none⟩) (by show Z < _; omega)).trans c5
      have c6 := (hb.cell (p := ⟨Z, 6, none⟩) (by show Z < _; omega)).trans c6
      have c7 := (hb.cell (p := ⟨Z, 7, none⟩) (by show Z < _; omega)).trans c7
      have c8 := (hb.cell (p := ⟨Z, 8, none⟩) (by show Z < _; omega)).trans c8
      have c9 := (hb.cell (p := ⟨Z, 9, none⟩) (by show Z < _; omega)).trans c9
      have c10 := (hb.cell (p := ⟨Z, 10, none⟩) (by show Z < _; omega)).trans c10
      have f0 := (hb.frozen (p := ⟨Z, 0, none⟩) (by show Z < _; omega)).trans f0
      have f1 := (hb.frozen (p := ⟨Z, 1, none⟩) (by show Z < _; omega)).trans f1
      have f2 := (hb.frozen (p := ⟨Z, 2, none⟩) (by show Z < _; omega)).trans f2
      have f3 := (hb.frozen (p := ⟨Z, 3, none⟩) (by show Z < _; omega)).trans f3
      have f4 := (hb.frozen (p := ⟨Z, 4, none⟩) (by show Z < _; omega)).trans f4
      have f5 := (hb.frozen (p := ⟨Z, 5, none⟩) (by show Z < _; omega)).trans f5
      have f6 := (hb.frozen (p := ⟨Z, 6, none⟩) (by show Z < _; omega)).trans f6
      have f7 := (hb.frozen (p := ⟨Z, 7, none⟩) (by show Z < _; omega)).trans f7
      have f8 := (hb.frozen (p := ⟨Z, 8, none⟩) (by show Z < _; omega)).trans f8
      have f9 := (hb.frozen (p := ⟨Z, 9, none⟩) (by show Z < _; omega)).trans f9
      have f10 := (hb.frozen (p := ⟨Z, 10, none⟩) (by show Z < _; omega)).trans f10
      have HB := Lib.hid hb
      clear r1 r2 ow1 ow2 hne hb
      go_upto_region 10 with fail
      obtain ⟨Y, hY⟩ : ∃ Y, wr.heap.size = Y := ⟨_, rfl⟩
      obtain ⟨w1, hw1⟩ : ∃ W', ((((wr.alloc (.cells #[.int .i64 5000, .int .i64 0] 26)).alloc (.cells #[.int .i64 0, .int .i64 1073741824, .slice A1 5 c1', .int .i64 0, .int .i64 0, .int .i64 0, .int .i64 0] 163)).alloc (.cells #[.int .i64 0, .int .i64 1073741824, .slice A1 5 c1', .int .i64 5000, .int .i64 0, .int .i64 5000, .int .i64 0] 163)).alloc (.cells #[.slice (some ⟨wr.heap.size + 1, 0, none⟩) 1 1, .slice (some ⟨wr.heap.size + 1 + 1, 0, none⟩) 1 1] 80)) = W' := ⟨_, rfl⟩
      have k1 : Below wr.heap.size wr w1 := by rw [← hw1]; exact ((((Below.refl _ _).alloc (Nat.le_refl _) _).alloc (by simp) _).alloc (by simp; omega) _).alloc (by simp; omega) _
      have z1 : Y + 1 + 1 + 1 < w1.heap.size := by rw [← hw1, ← hY]; simp
      have a0 : w1.cell? ⟨Y + 1, 0, none⟩ = some (.int .i64 0) := by rw [← hw1, ← hY]; simp [go_sem]
      have a1 : w1.cell? ⟨Y + 1, 1, none⟩ = some (.int .i64 1073741824) := by rw [← hw1, ← hY]; simp [go_sem]
      have a2 : w1.cell? ⟨Y + 1, 2, none⟩ = some (.slice A1 5 c1') := by rw [← hw1, ← hY]; simp [go_sem]
      have a3 : w1.cell? ⟨Y + 1, 3, none⟩ = some (.int .i64 0) := by rw [← hw1, ← hY]; simp [go_sem]
      have a4 : w1.cell? ⟨Y + 1, 4, none⟩ = some (.int .i64 0) := by rw [← hw1, ← hY]; simp [go_sem]
      have a5 : w1.cell? ⟨Y + 1, 5, none⟩ = some (.int .i64 0) := by rw [← hw1, ← hY]; simp [go_sem]
      have a6 : w1.cell? ⟨Y + 1, 6, none⟩ = some (.int .i64 0) := by rw [← hw1, ← hY]; simp [go_sem]
      have b0 : w1.cell? ⟨Y + 1 + 1, 0, none⟩ = some (.int .i64 0) := by rw [← hw1, ← hY]; simp [go_sem]
      have b1 : w1.cell? ⟨Y + 1 + 1, 1, none⟩ = some (.int .i64 1073741824) := by rw [← hw1, ← hY]; simp [go_sem]
      have b2 : w1.cell? ⟨Y + 1 + 1, 2, none⟩ = some (.slice A1 5 c1') := by rw [← hw1, ← hY]; simp [go_sem]
      have b3 : w1.cell? ⟨Y + 1 + 1, 3, none⟩ = some (.int .i64 5000) := by rw [← hw1, ← hY]; simp [go_sem]
      have b4 : w1.cell? ⟨Y + 1 + 1, 4, none⟩ = some (.int .i64 0) := by rw [← hw1, ← hY]; simp [go_sem]
      have b5 : w1.cell? ⟨Y + 1 + 1, 5, none⟩ = some (.int .i64 5000) := by rw [← hw1, ← hY]; simp [go_sem]
      have b6 : w1.cell? ⟨Y + 1 + 1, 6, none⟩ = some (.int .i64 0) := by rw [← hw1, ← hY]; simp [go_sem]
      have d0 : w1.cell? ⟨Y + 1 + 1 + 1, 0, none⟩ = some (.slice (some ⟨wr.heap.size + 1, 0, none⟩) 1 1) := by rw [← hw1, ← hY]; simp [go_sem]
      have d1 : w1.cell? ⟨Y + 1 + 1 + 1, 1, none⟩ = some (.slice (some ⟨wr.heap.size + 1 + 1, 0, none⟩) 1 1) := by rw [← hw1, ← hY]; simp [go_sem]
      (try rw [hw1])
      clear hw1
      rw [hY] at d0 d1
      have yz : Z + 1 ≤ Y := by omega
      have c0 := (k1.cell (p := ⟨Z, 0, none⟩) (by show Z < _; omega)).trans c0
      have c1 := (k1.cell (p := ⟨Z, 1, none⟩) (by show Z < _; omega)).trans c1
      have c2 := (k1.cell (p := ⟨Z, 2, none⟩) (by show Z < _; omega)).trans c2
      have c3 := (k1.cell (p := ⟨Z, 3, none⟩) (by show Z < _; omega)).trans c3
      have c4 := (k1.cell (p := ⟨Z, 4, none⟩) (by show Z < _; omega)).trans c4
      have c5 := (k1.cell (p := ⟨Z, 5, none⟩) (by show Z < _; omega)).trans c5
      have c6 := (k1.cell (p := ⟨Z, 6, none⟩) (by show Z < _; omega)).trans c6
      have c7 := (k1.cell (p := ⟨Z, 7, none⟩) (by show Z < _; omega)).trans c7
      have c8 := (k1.cell (p := ⟨Z, 8, none⟩) (by show Z < _; omega)).trans c8
      have c9 := (k1.cell (p := ⟨Z, 9, none⟩) (by show Z < _; omega)).trans c9
      have c10 := (k1.cell (p := ⟨Z, 10, none⟩) (by show Z < _; omega)).trans c10
      have f0 := (k1.frozen (p := ⟨Z, 0, none⟩) (by show Z < _; omega)).trans f0
      have f1 := (k1.frozen (p := ⟨Z, 1, none⟩) (by show Z < _; omega)).trans f1
      have f2 := (k1.frozen (p := ⟨Z, 2, none⟩) (by show Z < _; omega)).trans f2
      have f3 := (k1.frozen (p := ⟨Z, 3, none⟩) (by show Z < _; omega)).trans f3
      have f4 := (k1.frozen (p := ⟨Z, 4, none⟩) (by show Z < _; omega)).trans f4
      have f5 := (k1.frozen (p := ⟨Z, 5, none⟩) (by show Z < _; omega)).trans f5
      have f6 := (k1.frozen (p := ⟨Z, 6, none⟩) (by show Z < _; omega)).trans f6
      have f7 := (k1.frozen (p := ⟨Z, 7, none⟩) (by show Z < _; omega)).trans f7
      have f8 := (k1.frozen (p := ⟨Z, 8, none⟩) (by show Z < _; omega)).trans f8
      have f9 := (k1.frozen (p := ⟨Z, 9, none⟩) (by show Z < _; omega)).trans f9
      have f10 := (k1.frozen (p := ⟨Z, 10, none⟩) (by show Z < _; omega)).trans f10
      have KB := Lib.hid (HB.out.trans (k1.mono (by omega)))
      have HS1 := Lib.hid (HR1.out.below k1)
      have HS2 := Lib.hid (HR2.out.below k1)
      (try rw [hY])
      have HY := Lib.hid hY
      clear k1 hY HB HR1 HR2
      have HA := Lib.hid (And.intro a0 (And.intro a1 (And.intro a2 (And.intro a3 (And.intro a4 (And.intro a5 a6))))))
      have HBB := Lib.hid (And.intro b0 (And.intro b1 (And.intro b2 (And.intro b3 (And.intro b4 (And.intro b5 b6))))))
      clear a0 a1 a2 a3 a4 a5 a6 b0 b1 b2 b3 b4 b5 b6
      go_wp2_with fail
      refine bodyPost_ret (v := .agg #[.int .i64 5, .int .i64 5, .int .i64 100, .slice A2 5 c2', .slice (some ⟨Y + 1, 0, none⟩) 1 1, .slice (some ⟨Y + 1 + 1, 0, none⟩) 1 1, .int .i64 20, .int .i64 20, .int .i64 10, .int .i64 20, .bool false]) (by simp [results, Try.results43, go_sem, c0, c1, c2, c3, c4, c5, c6, c7, c8, c9, c10]) rfl ⟨⟨A2, c2', Y + 1, Y + 1 + 1, A1, c1', rfl, ?_⟩, ?_⟩
      · have hsz : (((((((((((w1.setCell ⟨Z, 0, none⟩ (.int .i64 5)).setCell ⟨Z, 1, none⟩ (.int .i64 5)).setCell ⟨Z, 2, none⟩ (.int .i64 100)).setCell ⟨Z, 3, none⟩ (.slice A2 5 c2')).setCell ⟨Z, 4, none⟩ (.slice (some ⟨Y + 1, 0, none⟩) 1 1)).setCell ⟨Z, 5, none⟩ (.slice (some ⟨Y + 1 + 1, 0, none⟩) 1 1)).setCell ⟨Z, 6, none⟩ (.int .i64 20)).setCell ⟨Z, 7, none⟩ (.int .i64 20)).setCell ⟨Z, 8, none⟩ (.int .i64 10)).setCell ⟨Z, 9, none⟩ (.int .i64 20)).setCell ⟨Z, 10, none⟩ (.bool false)).heap.size = w1.heap.size := by simp
        have hheap : ∀ g, g ≠ Z → (((((((((((w1.setCell ⟨Z, 0, none⟩ (.int .i64 5)).setCell ⟨Z, 1, none⟩ (.int .i64 5)).setCell ⟨Z, 2, none⟩ (.int .i64 100)).setCell ⟨Z, 3, none⟩ (.slice A2 5 c2')).setCell ⟨Z, 4, none⟩ (.slice (some ⟨Y + 1, 0, none⟩) 1 1)).setCell ⟨Z, 5, none⟩ (.slice (some ⟨Y + 1 + 1, 0, none⟩) 1 1)).setCell ⟨Z, 6, none⟩ (.int .i64 20)).setCell ⟨Z, 7, none⟩ (.int .i64 20)).setCell ⟨Z, 8, none⟩ (.int .i64 10)).setCell ⟨Z, 9, none⟩ (.int .i64 20)).setCell ⟨Z, 10, none⟩ (.bool false)).heap[g]? = w1.heap[g]? := fun g hg => by
          repeat rw [heap_setCell_other _ _ _ _ (by exact hg)]
        have hcell : ∀ g i, g ≠ Z → (((((((((((w1.setCell ⟨Z, 0, none⟩ (.int .i64 5)).setCell ⟨Z, 1, none⟩ (.int .i64 5)).setCell ⟨Z, 2, none⟩ (.int .i64 100)).setCell ⟨Z, 3, none⟩ (.slice A2 5 c2')).setCell ⟨Z, 4, none⟩ (.slice (some ⟨Y + 1, 0, none⟩) 1 1)).setCell ⟨Z, 5, none⟩ (.slice (some ⟨Y + 1 + 1, 0, none⟩) 1 1)).setCell ⟨Z, 6, none⟩ (.int .i64 20)).setCell ⟨Z, 7, none⟩ (.int .i64 20)).setCell ⟨Z, 8, none⟩ (.int .i64 10)).setCell ⟨Z, 9, none⟩ (.int .i64 20)).setCell ⟨Z, 10, none⟩ (.bool false)).cell? ⟨g, i, none⟩ = w1.cell? ⟨g, i, none⟩ := fun g i hg => by
          repeat rw [World.cell?_setCell_far _ _ _ _ (by exact Ne.symm hg)]
        obtain ⟨W', hW'⟩ : ∃ W', (((((((((((w1.setCell ⟨Z, 0, none⟩ (.int .i64 5)).setCell ⟨Z, 1, none⟩ (.int .i64 5)).setCell ⟨Z, 2, none⟩ (.int .i64 100)).setCell ⟨Z, 3, none⟩ (.slice A2 5 c2')).setCell ⟨Z, 4, none⟩ (.slice (some ⟨Y + 1, 0, none⟩) 1 1)).setCell ⟨Z, 5, none⟩ (.slice (some ⟨Y + 1 + 1, 0, none⟩) 1 1)).setCell ⟨Z, 6, none⟩ (.int .i64 20)).setCell ⟨Z, 7, none⟩ (.int .i64 20)).setCell ⟨Z, 8, none⟩ (.int .i64 10)).setCell ⟨Z, 9, none⟩ (.int .i64 20)).setCell ⟨Z, 10, none⟩ (.bool false)) = W' := ⟨_, rfl⟩
        rw [hW'] at hsz hheap hcell ⊢
        obtain ⟨a0, a1, a2, a3, a4, a5, a6⟩ := HA.out
        obtain ⟨b0, b1, b2, b3, b4, b5, b6⟩ := HBB.out
        have n1 : Y + 1 ≠ Z := by omega
        have n2 : Y + 1 + 1 ≠ Z := by omega
        have q1 : Runs W' (.slice A1 5 c1') allB := Lst.keepBlock HS1.out (by omega) (fun g hg _ => hheap g (HG1.out g hg))
        have q2 : Runs W' (.slice A2 5 c2') landB := Lst.keepBlock HS2.out (by omega) (fun g hg _ => hheap g (HG2.out g hg))
        exact ⟨q2, ⟨by omega, (hcell _ 0 n1).trans a0, (hcell _ 1 n1).trans a1, (hcell _ 2 n1).trans a2, (hcell _ 3 n1).trans a3, (hcell _ 4 n1).trans a4, (hcell _ 5 n1).trans a5, (hcell _ 6 n1).trans a6, q1⟩, ⟨by omega, (hcell _ 0 n2).trans b0, (hcell _ 1 n2).trans b1, (hcell _ 2 n2).trans b2, (hcell _ 3 n2).trans b3, (hcell _ 4 n2).trans b4, (hcell _ 5 n2).trans b5, (hcell _ 6 n2).trans b6, q1⟩⟩
      · have hk : Below Z w w1 := HK0.out.trans (KB.out.mono (by omega))
        rw [HZ.out]
        exact (((((((((((hk.setCell (p := ⟨Z, 0, none⟩) (Nat.le_refl Z) _).setCell (p := ⟨Z, 1, none⟩) (Nat.le_refl Z) _).setCell (p := ⟨Z, 2, none⟩) (Nat.le_refl Z) _).setCell (p := ⟨Z, 3, none⟩) (Nat.le_refl Z) _).setCell (p := ⟨Z, 4, none⟩) (Nat.le_refl Z) _).setCell (p := ⟨Z, 5, none⟩) (Nat.le_refl Z) _).setCell (p := ⟨Z, 6, none⟩) (Nat.le_refl Z) _).setCell (p := ⟨Z, 7, none⟩) (Nat.le_refl Z) _).setCell (p := ⟨Z, 8, none⟩) (Nat.le_refl Z) _).setCell (p := ⟨Z, 9, none⟩) (Nat.le_refl Z) _).setCell (p := ⟨Z, 10, none⟩) (Nat.le_refl Z) _)
end Go.Proofs.Ytnbdnnbeiohmgaa
