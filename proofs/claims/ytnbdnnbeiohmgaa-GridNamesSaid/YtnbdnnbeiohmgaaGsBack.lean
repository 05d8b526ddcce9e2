/- slices.Backward over rows of bytes: its iterator. -/
import Derived.Test.YtnbdnnbeiohmgaaGsBld
namespace Go.Proofs.Ytnbdnnbeiohmgaa
open Go.RowKit Go.Maps Go.Shelf Go.Lib
attribute [local go_sem] Oper.semAt_some

/-- what a round keeps: all that lay below, and the boxes of rows of rows -/
def KpB (n₀ : Nat) (W W' : World) : Prop := Below n₀ W W' ∧ ∀ (k : Nat) (c : Array Value) (f : Nat × Nat), W.heap[k]? = some (.cells c 146 f) → W'.heap[k]? = some (.cells c 146 f)
theorem KpB.refl {n₀ : Nat} (A : World) : KpB n₀ A A := ⟨Below.refl _ _, fun _ _ _ e => e⟩
theorem KpB.t {n₀ : Nat} {A B C : World} (h : KpB n₀ A B) (k : KpB n₀ B C) : KpB n₀ A C := ⟨h.1.trans k.1, fun j c f e => k.2 j c f (h.2 j c f e)⟩
theorem KpB.b {n₀ : Nat} {w : World} (hn : n₀ ≤ w.heap.size) (W : World) (l : Nat) (o o' : Obj) (hl : w.heap.size ≤ l) (h : W.heap[l]? = some o) (h1 : o.isCells = false) (h2 : o.isWalk = false) : KpB n₀ W (W.putObj l o') :=
  ⟨belowK_b hn W l o o' hl h h1 h2, fun k c f e => by
    by_cases hk : k = l
    · subst hk
      rw [h] at e
      cases e
      cases h1
    · exact (World.putObj_heap_other hk).trans e⟩
theorem KpB.alloc {n₀ : Nat} {W : World} (hn : n₀ ≤ W.heap.size) (o : Obj) : KpB n₀ W (W.alloc o) :=
  ⟨(Below.refl _ _).alloc hn o, fun k c f e => (Below.heap_alloc W o k (Array.getElem?_eq_some_iff.1 e).1).trans e⟩
/-- the numbers below H, from the greatest on: the first k -/
def downs (H k : Nat) : List Nat := (List.range k).map fun j => H - 1 - j
theorem downs_succ (H k : Nat) : downs H (k + 1) = downs H k ++ [H - 1 - k] := by simp [downs, List.range_succ]
theorem downs_len (H k : Nat) : (downs H k).length = k := by simp [downs]

set_option maxRecDepth 100000 in
set_option maxHeartbeats 4000000 in
theorem backw1_in (F : Fence) (n : Nat) (hf : F.fn 129) (hro : F.round = none) (hn : 1 ≤ n) (l Br n₀ H c R : Nat) (v : Nat → Value) (hH : H ≤ 256)
    (J Jx : List Nat → World → Prop) (W : World) (hJ : AbidesFrom W.heap.size J)
    (hY : ∀ pre i W, i < H → J pre W → pre.length < H → YieldAt F (n - 1) Try.prog l #[.int .i64 ((i : Nat) : Int), v i] W fun e W' =>
      (e = .returned (.bool true) ∧ J (pre ++ [i]) W' ∧ KpB n₀ W W') ∨ (e = .returned (.bool false) ∧ Jx (pre ++ [i]) W'))
    (hn₀ : n₀ ≤ W.heap.size) (hBr : W.heap[Br]? = some (.cells #[.slice (some ⟨R, 0, none⟩) H c] 146 (0, 0))) (hR : R < n₀)
    (hA : ∀ i, i < H → W.cell? ⟨R, i, none⟩ = some (v i))
    (h0 : J [] W) :
    CallsIn F n Try.prog 129 #[.func (.yield l) #[] #[], .pointer (some ⟨Br, 0, none⟩)] W fun e W' => (∃ v, e = .returned v) ∧
      ((∃ ys, ys = downs H H ∧ J ys W') ∨ (∃ pre, True ∧ Jx pre W')) := by
  have b0 : W.cell? ⟨Br, 0, none⟩ = some (.slice (some ⟨R, 0, none⟩) H c) := by simp [World.cell?, hBr]
  have hHw : IntKind.i64.wrap ((H : Int) - 1) = H - 1 := wrapK _ (by omega) (by omega)
  refine callsIn_of_wp Try.func129 rfl hf ?_ hro
  simp only [Try.ntmps129, List.size_toArray, List.length_cons, List.length_nil, Nat.reduceAdd, Nat.reduceSub, Array.replicate_succ, Array.replicate_zero, List.push_toArray, List.append_toArray, List.nil_append, List.cons_append]
  gi_wp2
  gi_loopw [3] (fun i wr => ∃ k : Nat, k ≤ H ∧ i = .int .i64 ((H : Int) - 1 - k) ∧ J (downs H k) wr ∧ KpB n₀ W wr)
    (fun i _ => (intOf i + 1).toNat)
  case atStart => exact ⟨0, Nat.zero_le _, by simp, h0, KpB.refl _⟩
  case round =>
    obtain ⟨k, hk, rfl, hJs, hkp⟩ := hrel
    have d0 : wr.cell? ⟨Br, 0, none⟩ = some (.slice (some ⟨R, 0, none⟩) H c) := by simp [World.cell?, hkp.2 _ _ _ hBr]
    by_cases hlt : k < H
    · have hi : (H : Int) - 1 - k = ((H - 1 - k : Nat) : Int) := by omega
      have d1 : wr.cell? ⟨R, H - 1 - k, none⟩ = some (v (H - 1 - k)) := (hkp.1.cell (p := ⟨R, H - 1 - k, none⟩) hR).trans (hA _ (by omega))
      obtain ⟨fn, tmps, assign, body, hy, hRn⟩ := hY _ (H - 1 - k) wr (by omega) hJs (by rw [downs_len]; omega)
      rw [hi]
      gi_wp2
      refine hRn.mono ?_
      rintro e W3 (⟨rfl, hJ3, hk3⟩ | ⟨rfl, hJx3⟩)
      · gi_wp2
        refine ⟨⟨k + 1, by omega, ?_, ?_, hkp.t hk3⟩, ?_⟩
        · congr 1; omega
        · rw [downs_succ]; exact hJ3
        · simp only [intOf]; omega
      · gi_wp2
        refine bodyPost_ret (results_none rfl _ _ _) rfl ?_
        exact ⟨⟨_, rfl⟩, .inr ⟨_, trivial, hJx3⟩⟩
    · obtain rfl : k = H := by omega
      gi_wp2
      go_end0
      exact ⟨⟨_, rfl⟩, .inl ⟨_, rfl, hJs⟩⟩

theorem backw_stops (F : Fence) (n : Nat) (hf : F.fn 129) (hro : F.round = none) (hn : 1 ≤ n) (Br n₀ H c R : Nat) (v : Nat → Value) (hH : H ≤ 256) (w : World)
    (hn₀ : n₀ ≤ w.heap.size) (hBl : Br < w.heap.size) (hBr : w.heap[Br]? = some (.cells #[.slice (some ⟨R, 0, none⟩) H c] 146 (0, 0))) (hR : R < n₀) (hA : ∀ i, i < H → w.cell? ⟨R, i, none⟩ = some (v i)) :
    SeqStopsK F n Try.prog 129 #[.pointer (some ⟨Br, 0, none⟩)] (fun i : { i : Nat // i < H } => #[.int .i64 ((i.1 : Nat) : Int), v i.1]) (KpB n₀) (fun ys => ys.map (·.1) = downs H H) (fun _ => True) H w := fun l J Jx W hW hJ _ hY h0 =>
  (backw1_in F n hf hro hn l Br n₀ H c R v hH (fun pre W => ∃ ys : List { i : Nat // i < H }, ys.map (·.1) = pre ∧ J ys W) (fun pre W => ∃ ys : List { i : Nat // i < H }, ys.map (·.1) = pre ∧ Jx ys W) W
    (fun pre X Y row ⟨ys, e, h⟩ hg hr => ⟨ys, e, hJ ys X Y row h hg hr⟩)
    (fun pre x W hx hJ hl => by
      obtain ⟨ys, rfl, hJ⟩ := hJ
      obtain ⟨fn, tmps, assign, body, hy, hR⟩ := hY ys ⟨x, hx⟩ W hJ (by simpa using hl)
      refine ⟨fn, tmps, assign, body, hy, hR.mono ?_⟩
      rintro e W' (⟨h1, h2, h3⟩ | ⟨h1, h2⟩)
      · exact .inl ⟨h1, ⟨_, by simp, h2⟩, h3⟩
      · exact .inr ⟨h1, ⟨_, by simp, h2⟩⟩) (Nat.le_trans hn₀ hW.size) ((hW.block Br hBl).trans hBr) hR (fun i hi => (hW.cell (p := ⟨R, i, none⟩) (show R < w.heap.size by omega)).trans (hA i hi)) ⟨[], rfl, h0⟩).mono fun e W' ⟨h1, h2⟩ => ⟨h1, by
    rcases h2 with ⟨ys, rfl, zs, hz, hJ⟩ | ⟨pre, _, zs, -, hJ⟩
    · exact .inl ⟨zs, hz, hJ⟩
    · exact .inr ⟨zs, trivial, hJ⟩⟩
set_option maxRecDepth 100000 in
theorem backw_call (R H c : Nat) (w : World) :
    Calls Try.prog 91 #[.slice (some ⟨R, 0, none⟩) H c] w fun e w' => e = .returned (.func (.func 129) #[] #[.pointer (some ⟨w.heap.size, 0, none⟩)]) ∧ w' = w.alloc (.cells #[.slice (some ⟨R, 0, none⟩) H c] 146) := by
  go_enter Try.func91, Try.ntmps91
  go_wp2_with fail
  go_ret
  exact ⟨rfl, rfl⟩
end Go.Proofs.Ytnbdnnbeiohmgaa
