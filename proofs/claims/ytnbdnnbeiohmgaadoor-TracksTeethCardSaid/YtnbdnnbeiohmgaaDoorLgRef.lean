/- The document's Valid: true of valid grids and regions of which each run has a cell. -/
import Derived.Test.YtnbdnnbeiohmgaaDoorLgComb
import Derived.Test.YtnbdnnbeiohmgaaDoorGrA
import Derived.StillTailTactics
namespace Go.Proofs.YtnbdnnbeiohmgaaDoor
open Go.RowKit Go.Shelf

theorem in_ref (n lo hi : Int) (w : World) : Calls Tryd.prog 73 #[.int .i64 n, .int .i64 lo, .int .i64 hi] w fun e w' => e = .returned (.bool (inB n lo hi)) ∧ w = w' := by
  go_enter Tryd.func73, Tryd.ntmps73
  by_cases h : lo ≤ n
  · by_cases h2 : n ≤ hi
    · go_wp2
      go_ret
      exact ⟨by simp [inB, h, h2], rfl⟩
    · have h2' : hi < n := by omega
      go_wp2
      go_ret
      exact ⟨by simp [inB, h]; omega, rfl⟩
  · have h' : n < lo := by omega
    go_wp2
    go_ret
    exact ⟨by simp [inB]; omega, rfl⟩
theorem quiet_left {P : Program} {f : FuncId} {args : Array Value} {w : World} {n : Nat} {v : Value}
    (h : Calls P f args (w.drewN n) fun e w' => e = .returned v ∧ w.drewN n = w') : Calls P f args (w.drewN n) fun e w' => e = .returned v ∧ ∃ m, w' = w.drewN m :=
  h.mono fun _ _ ⟨he, hm⟩ => ⟨he, n, hm.symm⟩
theorem in_yes (n lo hi : Int) (w : World) (h : lo ≤ n ∧ n ≤ hi) : Calls Tryd.prog 73 #[.int .i64 n, .int .i64 lo, .int .i64 hi] w fun e w' => e = .returned (.bool true) ∧ w = w' := by
  have e : inB n lo hi = true := by simp only [inB, Bool.and_eq_true, decide_eq_true_eq]; exact h
  have := in_ref n lo hi w
  rwa [e] at this

set_option maxRecDepth 100000 in
set_option maxHeartbeats 8000000 in
theorem rows_ref (W H : Int) (v : Value) (l : List R3) (w : World) (hH : 1 ≤ H ∧ H ≤ 256) (hl : Runs w v l) (hp : Proper W H l) (hlen : l.length ≤ 8192) :
    Calls Tryd.prog 69 #[.int .i64 W, .int .i64 H, v] w fun e w' => e = .returned (.bool true) ∧ Below w.heap.size w w' := by
  obtain ⟨A, c, rfl, h1, h2, h3⟩ := hl
  unfold maxLen at h2
  obtain ⟨n, hn⟩ : ∃ n, l.length = n := ⟨_, rfl⟩
  rw [hn] at h1 h3 hlen ⊢
  have hord := Lib.hid hp.1
  have hrows := Lib.hid hp.rows0
  have hcell := Lib.hid hp.2
  have eH : IntKind.i64.wrap (H - 1) = H - 1 := wrapK _ (by omega) (by omega)
  clear hp
  go_enter Tryd.func69, Tryd.ntmps69
  go_wp2_with fail
  go_loopw [7] (fun i wr => ∃ k : Nat, k ≤ n ∧ i = .int .i64 k ∧ Below w.heap.size w wr) (fun i _ => n - (intOf i).toNat)
  case atStart => exact ⟨0, Nat.zero_le _, rfl, Below.refl _ _⟩
  case round =>
    obtain ⟨k, hk, rfl, hb⟩ := hrel
    by_cases hlt : k < n
    · obtain ⟨b, off, rfl, hbl, m⟩ := h3 (by omega)
      obtain ⟨⟨y, f, t⟩, hx⟩ : ∃ x, l[k]? = some x := ⟨_, List.getElem?_eq_getElem (by omega)⟩
      have m0 := (hb.cell (p := ⟨b, off + k * 3, none⟩) hbl).trans (m k 0 _ _ hx rfl)
      have m1 := (hb.cell (p := ⟨b, off + k * 3 + 1, none⟩) hbl).trans (m k 1 _ _ hx rfl)
      have m2 := (hb.cell (p := ⟨b, off + k * 3 + 2, none⟩) hbl).trans (m k 2 _ _ hx rfl)
      have hr := hrows.out _ (List.mem_of_getElem? hx)
      have hc := hcell.out _ (List.mem_of_getElem? hx)
      dsimp only at hr hc
      have hk0 : (0 : Int) ≤ (k : Int) := by omega
      have hk1 : (k : Int) < (n : Int) := by omega
      have hf0 : ¬ f < 0 := by omega
      have hft : ¬ t ≤ f := by omega
      have htW : ¬ W < t := by omega
      have HI := Lib.hid (fun w => in_yes y 0 (H - 1) w (by omega))
      by_cases hk0' : k = 0
      · have hkz : ¬ (0 : Int) < (k : Int) := by omega
        have hkz' : ¬ 0 < k := by omega
        clear m h3 hx hk0'
        go_wp2_with fail
        go_quiet ((go_at_call 73; exact quiet_left (HI.out _)))
        have m0 : (wr.drewN nq).cell? ⟨b, off + k * 3, none⟩ = some (.int .i64 y) := m0
        have m1 : (wr.drewN nq).cell? ⟨b, off + k * 3 + 1, none⟩ = some (.int .i64 f) := m1
        have m2 : (wr.drewN nq).cell? ⟨b, off + k * 3 + 2, none⟩ = some (.int .i64 t) := m2
        have hb := belowDrewN hb nq
        generalize wr.drewN nq = w5 at m0 m1 m2 hb ⊢
        go_wp2_with fail
        go_quiet (fail)
        go_wp2_with fail
        go_roundw
        case rel => exact ⟨k + 1, by omega, by go_num, belowDrewN hb _⟩
        case measure => simp [intOf]; omega
      · obtain ⟨j, hj⟩ : ∃ j : Nat, k = j + 1 := ⟨k - 1, by omega⟩
        obtain ⟨⟨y2, f2, t2⟩, hx2⟩ : ∃ x, l[j]? = some x := ⟨_, List.getElem?_eq_getElem (by omega)⟩
        have q0 := (hb.cell (p := ⟨b, off + j * 3, none⟩) hbl).trans (m j 0 _ _ hx2 rfl)
        have q1 := (hb.cell (p := ⟨b, off + j * 3 + 1, none⟩) hbl).trans (m j 1 _ _ hx2 rfl)
        have q2 := (hb.cell (p := ⟨b, off + j * 3 + 2, none⟩) hbl).trans (m j 2 _ _ hx2 rfl)
        have hnx := right_next hord.out hx2 (by rw [← hj]; exact hx)
        dsimp only at hnx
        have ew : IntKind.i64.wrap ((k : Int) - 1) = (j : Int) := by rw [wrapK _ (by omega) (by omega)]; omega
        have hj0 : (0 : Int) ≤ (j : Int) := by omega
        have hj1 : (j : Int) < (n : Int) := by omega
        have hkp : (0 : Int) < (k : Int) := by omega
        have hkp' : 0 < k := by omega
        clear m h3 hx hx2 hj hk0'
        go_wp2_with fail
        go_quiet ((go_at_call 73; exact quiet_left (HI.out _)))
        have m0 : (wr.drewN nq).cell? ⟨b, off + k * 3, none⟩ = some (.int .i64 y) := m0
        have m1 : (wr.drewN nq).cell? ⟨b, off + k * 3 + 1, none⟩ = some (.int .i64 f) := m1
        have m2 : (wr.drewN nq).cell? ⟨b, off + k * 3 + 2, none⟩ = some (.int .i64 t) := m2
        have q0 : (wr.drewN nq).cell? ⟨b, off + j * 3, none⟩ = some (.int .i64 y2) := q0
        have q1 : (wr.drewN nq).cell? ⟨b, off + j * 3 + 1, none⟩ = some (.int .i64 f2) := q1
        have q2 : (wr.drewN nq).cell? ⟨b, off + j * 3 + 2, none⟩ = some (.int .i64 t2) := q2
        have hb := belowDrewN hb nq
        generalize wr.drewN nq = w5 at m0 m1 m2 q0 q1 q2 hb ⊢
        go_wp2_with fail
        by_cases hy2 : y = y2
        · subst hy2
          have hf2 : ¬ f ≤ t2 := by omega
          go_quiet (fail)
          go_wp2_with fail
          go_roundw
          case rel => exact ⟨k + 1, by omega, by go_num, belowDrewN hb _⟩
          case measure => simp [intOf]; omega
        · have hy3 : ¬ y < y2 := by omega
          go_quiet (fail)
          go_wp2_with fail
          go_roundw
          case rel => exact ⟨k + 1, by omega, by go_num, belowDrewN hb _⟩
          case measure => simp [intOf]; omega
    · have hke : k = n := by omega
      subst hke
      go_wp2_with fail
      go_ret
      exact ⟨retOf (congrArg Value.bool (decide_eq_true (by omega))), hb⟩
end Go.Proofs.YtnbdnnbeiohmgaaDoor
