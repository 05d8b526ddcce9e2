/- Rows of the call's own that read as spots; the closures of turned. -/
import Derived.Test.YtnbdnnbeiohmgaaDoorTkValid
import Derived.Deep.AppendLies
import Derived.Deep.RegionHeld3
namespace Go.Proofs.YtnbdnnbeiohmgaaDoor
open Go.RowKit

theorem turned_0 (w : World) : Calls Tryd.prog 36 #[.int .i64 0] w fun e w' => e = .returned (.func (.func 57) #[] #[]) ∧ w = w' := by
  go_enter Tryd.func36, Tryd.ntmps36
  go_wp2
  go_ret
  exact ⟨rfl, rfl⟩
theorem same_tk (x y : Int) (w : World) : Calls Tryd.prog 57 #[.agg #[.int .i64 x, .int .i64 y]] w fun e w' => e = .returned (.agg #[.int .i64 x, .int .i64 y]) ∧ Below w.heap.size w w' := by
  go_enter Tryd.func57, Tryd.ntmps57
  go_wp2
  refine bodyPost_ret (v := .agg #[.int .i64 x, .int .i64 y]) (by simp [results, Tryd.results57, go_sem]) rfl ⟨rfl, ?_⟩
  exact ((Below.refl _ _).alloc (Nat.le_refl _) _).alloc (by simp) _

theorem Spots_two (w : World) (B : Nat) (hB : w.heap.size = B) (x y x' y' : Int) (t : TypeId) : Spots (w.alloc (.cells #[.int .i64 x, .int .i64 y, .int .i64 x', .int .i64 y'] t)) (.slice (some ⟨B, 0, none⟩) 2 2) [(x, y), (x', y')] := by
  subst hB
  refine ⟨_, 2, rfl, Nat.le_refl _, by unfold maxLen; omega, fun _ => ⟨w.heap.size, 0, rfl, by simp, fun k s hk => ?_⟩⟩
  match k, hk with
  | 0, hk => simp at hk; subst hk; simp [go_sem]
  | 1, hk => simp at hk; subst hk; simp [go_sem]
  | k + 2, hk => simp at hk

theorem infoSpot : (Tryd.prog.info? 23).map (fun i => (i.zero, i.size, i.bytes)) = some (some (.agg #[.int .i64 0, .int .i64 0]), 2, 16) := by kernel_rfl
theorem grown_of_below {w w' : World} (h : Below w.heap.size w w') : w.grownBy w' none := ⟨h.os, h.tape, h.output, h.size, fun i hi _ => h.block i hi⟩
theorem ownsRow_below {w w' : World} {base : Nat} {e : TypeId} {size : Nat} {v : Value} {n : Nat} {xs : List Value} (h : w.ownsRow base e size v n xs) (hb : Below w.heap.size w w') : w'.ownsRow base e size v n xs :=
  h.kept (grown_of_below hb) (by cases hv : v.ownBlock <;> simp)
/-- the cells of spots -/
def flatS (l : List (Int × Int)) : List Value := l.flatMap fun s => [.int .i64 s.1, .int .i64 s.2]
theorem flatS_append (l k : List (Int × Int)) : flatS (l ++ k) = flatS l ++ flatS k := by simp [flatS]
theorem flatS_get (l : List (Int × Int)) : ∀ (k : Nat) (s : Int × Int), l[k]? = some s → (flatS l)[k * 2]? = some (.int .i64 s.1) ∧ (flatS l)[k * 2 + 1]? = some (.int .i64 s.2) := by
  induction l with
  | nil => intro k s h; simp at h
  | cons a l ih =>
    intro k s h
    cases k with
    | zero => simp at h; subst h; simp [flatS]
    | succ k =>
      have := ih k s (by simpa using h)
      have e1 : (k + 1) * 2 = k * 2 + 2 := by omega
      have e2 : k * 2 + 2 + 1 = k * 2 + 1 + 2 := by omega
      rw [e1, e2]
      simpa [flatS] using this
/-- a row of the call's own reads as spots -/
theorem Spots_of_own {w : World} {base : Nat} {e : TypeId} {v : Value} {n : Nat} {l : List (Int × Int)} (h : w.ownsRow base e 2 v n (flatS l)) (hn : n = l.length) : Spots w v l := by
  subst hn
  rcases Nat.eq_zero_or_pos l.length with h0 | h0
  · have hl : l = [] := List.eq_nil_of_length_eq_zero h0
    subst hl
    rcases h.2 with ⟨rfl, _⟩ | ⟨g, cap, cur, rfl, _, hh, _, hm, _⟩
    · exact ⟨none, 0, rfl, Nat.le_refl _, by unfold maxLen; omega, fun h => absurd h (by simp)⟩
    · exact ⟨_, cap, rfl, by simp, by omega, fun h => absurd h (by simp)⟩
  · obtain ⟨g, cap, rfl, hb, hlt⟩ := h.form h0
    have hc := h.cells (g := g) rfl
    rcases h.2 with ⟨_, h1⟩ | ⟨g', cap', cur, hv, _, hh, hnc, hm, _⟩
    · omega
    · cases hv
      refine ⟨_, cap, rfl, hnc, by omega, fun _ => ⟨g, 0, rfl, hlt, fun k s hk => ?_⟩⟩
      obtain ⟨e1, e2⟩ := flatS_get l k s hk
      have a1 := hc _ _ e1
      have a2 := hc _ _ e2
      have ad : ∀ j, (⟨g, 0, none⟩ : Addr).add j = ⟨g, 0 + j, none⟩ := fun j => by unfold Addr.add; split <;> simp_all
      rw [ad] at a1 a2
      exact ⟨a1, by rw [Nat.add_assoc]; exact a2⟩

def par08 : List (Int × Int) := [(0, 2), (10, 2), (10, 6), (0, 6), (0, 9), (10, 9)]

end Go.Proofs.YtnbdnnbeiohmgaaDoor
