/- grid.near, grid.Has. -/
import Derived.Test.YtnbdnnbeiohmgaaGrRow
namespace Go.Proofs.Ytnbdnnbeiohmgaa
open Go.RowKit Go.Shelf Go.Lib

def nearS (s : Int × Int) : Bool := nearC s.1 && nearC s.2

/-- are spots valid? (one or more of them) -/
theorem near_gr (v : Value) (l : List (Int × Int)) (w : World) (h : Lst 2 encS w v l) (h0 : 0 < l.length) :
    Calls Try.prog 60 #[v] w fun e w' => e = .returned (.bool (l.all nearS)) ∧ Below w.heap.size w w' := by
  obtain ⟨A, c, rfl, h1, h2, h3⟩ := h
  unfold maxLen at h2
  obtain ⟨b, off, rfl, hb, hc⟩ := h3 h0
  have eg : ∀ args w, (callFunc 111 args).run Try.prog w = .ok (.enter 111 args) w := enters_of Try.func111 (by kernel_rfl) rfl
  have hcon := AnyQ.slices_ContainsFunc Try.hasSpot 2 Try.isAgg26 Try.sizeOf26 encS encS_len (fun s => !nearS s) 111 #[] eg b off l.length c l w
    (fun W x hW => (near1_gr x.1 x.2 W).mono fun e w' ⟨he, hb'⟩ => ⟨he, hW.trans (hb'.mono hW.size)⟩) (Nat.le_refl _) (by omega) hb
    (fun j hj i u hu => by
      have e : l[j]! = l[j] := by simp [hj]
      rw [e] at hu
      exact hc j i _ u (List.getElem?_eq_getElem hj) hu)
  rw [List.take_length] at hcon
  change Calls Try.prog 110 _ _ _ at hcon
  have e1 : l.all nearS = !(l.any fun s => !nearS s) := by rw [List.not_any_eq_all_not]; simp
  rw [e1]
  obtain ⟨r, hr⟩ : ∃ r, (l.any fun s => !nearS s) = r := ⟨_, rfl⟩
  rw [hr] at hcon ⊢
  have HC := Lib.hid hcon
  clear hcon hc h3 hr
  go_enter Try.func60, Try.ntmps60
  go_wp2_with fail
  refine HC.out.mono ?_
  rintro e w1 ⟨rfl, hb1⟩
  go_wp2_with fail
  go_ret
  exact ⟨rfl, hb1⟩

/-- does a run have a cell? -/
def hasR (x y : Int) (r : R3) : Bool := r.1 == y && decide (r.2.1 ≤ x) && decide (x < r.2.2)

theorem has1_gr (x y a f t : Int) (B : Nat) (w : World) (hB : B < w.heap.size) (c0 : w.cell? ⟨B, 0, none⟩ = some (.int .i64 x)) (c1 : w.cell? ⟨B, 1, none⟩ = some (.int .i64 y)) :
    Calls Try.prog 64 #[.agg #[.int .i64 a, .int .i64 f, .int .i64 t], .pointer (some ⟨B, 0, none⟩)] w fun e w' => e = .returned (.bool (hasR x y (a, f, t))) ∧ Below w.heap.size w w' := by
  unfold hasR
  dsimp only
  by_cases h1 : a = y
  · subst h1
    by_cases h2 : f ≤ x
    · go_enter Try.func64, Try.ntmps64
      go_wp2_with fail
      go_ret
      exact ⟨retOf (congrArg Value.bool (by simp [h2])), (Below.refl _ _).alloc (Nat.le_refl _) _⟩
    · have h2' : x < f := by omega
      go_enter Try.func64, Try.ntmps64
      go_wp2_with fail
      go_ret
      exact ⟨retOf (congrArg Value.bool (by simp; omega)), (Below.refl _ _).alloc (Nat.le_refl _) _⟩
  · have h1' : (a == y) = false := by simpa using h1
    go_enter Try.func64, Try.ntmps64
    go_wp2_with fail
    go_ret
    exact ⟨retOf (congrArg Value.bool (by simp [h1])), (Below.refl _ _).alloc (Nat.le_refl _) _⟩

def hasL (l : List R3) (x y : Int) : Bool := l.any (hasR x y)
theorem has_gr (v : Value) (l : List R3) (x y : Int) (w : World) (h : Runs w v l) :
    Calls Try.prog 18 #[v, .agg #[.int .i64 x, .int .i64 y]] w fun e w' => e = .returned (.bool (hasL l x y)) ∧ Below w.heap.size w w' := by
  have eg : ∀ args w, (callFunc 64 args).run Try.prog w = .ok (.enter 64 args) w := enters_of Try.func64 (by kernel_rfl) rfl
  have hcon := has_run 64 #[.pointer (some ⟨w.heap.size, 0, none⟩)] (hasR x y) v l (w.alloc (.cells #[.int .i64 x, .int .i64 y] 39)) (h.alloc _) eg (fun W a f t hW => by
    have c0 := hW.cell (p := ⟨w.heap.size, 0, none⟩) (by simp)
    have c1 := hW.cell (p := ⟨w.heap.size, 1, none⟩) (by simp)
    have hz := hW.size
    simp [go_sem] at c0 c1 hz
    exact has1_gr x y a f t w.heap.size W (by omega) c0 c1)
  obtain ⟨A, c, rfl, -⟩ := h
  obtain ⟨r, hr⟩ : ∃ r, hasL l x y = r := ⟨_, rfl⟩
  rw [hr]
  rw [show l.any (hasR x y) = r from hr] at hcon
  have HC := Lib.hid hcon
  clear hcon hr
  go_enter Try.func18, Try.ntmps18
  go_wp2_with fail
  refine HC.out.mono ?_
  rintro e w1 ⟨rfl, hb1⟩
  go_wp2_with fail
  go_ret
  exact ⟨rfl, ((Below.refl _ _).alloc (Nat.le_refl _) _).trans (hb1.mono (by simp))⟩
end Go.Proofs.Ytnbdnnbeiohmgaa
