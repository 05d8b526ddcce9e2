/- grid.All; little, one, Same. -/
import Derived.Test.YtnbdnnbeiohmgaaDoorGrDisc
namespace Go.Proofs.YtnbdnnbeiohmgaaDoor
open Go.RowKit Go.Shelf Go.Lib

/-- rows of one span at most -/
theorem MergeOf.single {l m : List S2} (h : MergeOf l m) (hl : l.length ≤ 1) : m = l := by
  obtain ⟨l', hp, -, rfl⟩ := h
  match l, hl with
  | [], _ => rw [hp.eq_nil]; rfl
  | [a], _ => rw [List.perm_singleton.1 hp]; rfl
theorem RegOf.single {f : Nat → List S2} {R : List R3} (h : RegOf f R) (hf : ∀ y, y < 256 → (f y).length ≤ 1) : R = rowsR f 256 := by
  obtain ⟨ms, hm, rfl⟩ := h
  unfold rowsR
  rw [List.flatMap_def, List.flatMap_def]
  refine congrArg List.flatten (List.map_congr_left fun y hy => ?_)
  rw [(hm y (List.mem_range.1 hy)).single (hf y (List.mem_range.1 hy))]

set_option maxRecDepth 100000 in
set_option maxHeartbeats 4000000 in
/-- Same, of two lists that are the same -/
theorem same_gr (v u : Value) (l : List R3) (w : World) (h : Runs w v l) (k : Runs w u l) : Calls Tryd.prog 18 #[v, u] w fun e w' => e = .returned (.bool true) ∧ Below w.heap.size w w' := by
  obtain ⟨A1, c1, rfl, h1, h2, h3⟩ := h
  obtain ⟨A2, c2, rfl, g1, g2, g3⟩ := k
  unfold maxLen at h2 g2
  go_enter Tryd.func18, Tryd.ntmps18
  go_wp2_with fail
  go_loopw [5] (fun i wr => ∃ k : Nat, k ≤ l.length ∧ i = .int .i64 k ∧ Below w.heap.size w wr) (fun i _ => l.length - (intOf i).toNat)
  case atStart => exact ⟨0, Nat.zero_le _, rfl, Below.refl _ _⟩
  case round =>
    obtain ⟨k, hk, rfl, hb⟩ := hrel
    by_cases hlt : k < l.length
    · obtain ⟨b1, o1, rfl, hl1, m⟩ := h3 (by omega)
      obtain ⟨b2, o2, rfl, hl2, q⟩ := g3 (by omega)
      obtain ⟨⟨y, f, t⟩, hx⟩ : ∃ x, l[k]? = some x := ⟨_, List.getElem?_eq_getElem hlt⟩
      have m0 := (hb.cell (p := ⟨b1, o1 + k * 3, none⟩) hl1).trans (m k 0 _ _ hx rfl)
      have m1 := (hb.cell (p := ⟨b1, o1 + k * 3 + 1, none⟩) hl1).trans (m k 1 _ _ hx rfl)
      have m2 := (hb.cell (p := ⟨b1, o1 + k * 3 + 2, none⟩) hl1).trans (m k 2 _ _ hx rfl)
      have q0 := (hb.cell (p := ⟨b2, o2 + k * 3, none⟩) hl2).trans (q k 0 _ _ hx rfl)
      have q1 := (hb.cell (p := ⟨b2, o2 + k * 3 + 1, none⟩) hl2).trans (q k 1 _ _ hx rfl)
      have q2 := (hb.cell (p := ⟨b2, o2 + k * 3 + 2, none⟩) hl2).trans (q k 2 _ _ hx rfl)
      have hk0 : (0 : Int) ≤ (k : Int) := by omega
      have hk1 : (k : Int) < (l.length : Int) := by omega
      clear m q hx h3 g3
      go_wp2_with fail
      go_quiet (fail)
      go_wp2_with fail
      go_roundw
      case rel => exact ⟨k + 1, by omega, by go_num, belowDrewN hb _⟩
      case measure => simp [intOf]; omega
    · have hke : k = l.length := by omega
      subst hke
      go_wp2_with fail
      go_ret
      exact ⟨rfl, hb⟩
end Go.Proofs.YtnbdnnbeiohmgaaDoor
