/- slices.Chunk over a list of one cell: its iterator. -/
import Derived.Test.YtnbdnnbeiohmgaaDnWat
import Derived.Test.YtnbdnnbeiohmgaaGsBack
import Derived.RegionIn
import Derived.Stop.RegionWithIn
namespace Go.Proofs.Ytnbdnnbeiohmgaa
open Go.RowKit Go.Maps Go.Shelf Go.Lib
attribute [local go_sem] Oper.semAt_some

/-- what a round keeps: all that lay below, and the boxes of lists of cells and of numbers -/
def KpC (n₀ : Nat) (W W' : World) : Prop := Below n₀ W W' ∧ ∀ (k : Nat) (c : Array Value) (t : TypeId) (f : Nat × Nat), (t = 36 ∨ t = 3) → W.heap[k]? = some (.cells c t f) → W'.heap[k]? = some (.cells c t f)
theorem KpC.refl {n₀ : Nat} (A : World) : KpC n₀ A A := ⟨Below.refl _ _, fun _ _ _ _ _ e => e⟩
theorem KpC.t {n₀ : Nat} {A B C : World} (h : KpC n₀ A B) (k : KpC n₀ B C) : KpC n₀ A C := ⟨h.1.trans k.1, fun j c t f ht e => k.2 j c t f ht (h.2 j c t f ht e)⟩
theorem KpC.b {n₀ : Nat} {w : World} (hn : n₀ ≤ w.heap.size) (W : World) (l : Nat) (o o' : Obj) (hl : w.heap.size ≤ l) (h : W.heap[l]? = some o) (h1 : o.isCells = false) (h2 : o.isWalk = false) : KpC n₀ W (W.putObj l o') :=
  ⟨belowK_b hn W l o o' hl h h1 h2, fun k c t f _ e => by
    by_cases hk : k = l
    · subst hk
      rw [h] at e
      cases e
      cases h1
    · exact (World.putObj_heap_other hk).trans e⟩
theorem KpC.alloc {n₀ : Nat} {W : World} (hn : n₀ ≤ W.heap.size) (o : Obj) : KpC n₀ W (W.alloc o) :=
  ⟨(Below.refl _ _).alloc hn o, fun k _c _t _f _ e => (Below.heap_alloc W o k (Array.getElem?_eq_some_iff.1 e).1).trans e⟩

set_option maxRecDepth 100000 in
set_option maxHeartbeats 4000000 in
theorem chunk1_in (F : Fence) (n : Nat) (hf : F.fn 176) (hro : F.round = none) (hn : 1 ≤ n) (l Bs Bn n₀ R c : Nat) (hc : 1 ≤ c)
    (J Jx : List Unit → World → Prop) (W : World) (hJ : AbidesFrom W.heap.size J)
    (hY : ∀ W, J [] W → YieldAt F (n - 1) Try.prog l #[.slice (some ⟨R, 0, none⟩) 1 1] W fun e W' =>
      (e = .returned (.bool true) ∧ J [()] W' ∧ KpC n₀ W W') ∨ (e = .returned (.bool false) ∧ Jx [()] W'))
    (_hn₀ : n₀ ≤ W.heap.size) (hBs : W.heap[Bs]? = some (.cells #[.slice (some ⟨R, 0, none⟩) 1 c] 36 (0, 0))) (hBn : W.heap[Bn]? = some (.cells #[.int .i64 8192] 3 (0, 0)))
    (h0 : J [] W) :
    CallsIn F n Try.prog 176 #[.func (.yield l) #[] #[], .pointer (some ⟨Bs, 0, none⟩), .pointer (some ⟨Bn, 0, none⟩)] W fun e W' => (∃ v, e = .returned v) ∧
      ((J [()] W') ∨ (Jx [()] W')) := by
  have b0 : W.cell? ⟨Bs, 0, none⟩ = some (.slice (some ⟨R, 0, none⟩) 1 c) := by simp [World.cell?, hBs]
  have b1 : W.cell? ⟨Bn, 0, none⟩ = some (.int .i64 8192) := by simp [World.cell?, hBn]
  refine callsIn_of_wp Try.func176 rfl hf ?_ hro
  simp only [Try.ntmps176, List.size_toArray, List.length_cons, List.length_nil, Nat.reduceAdd, Nat.reduceSub, Array.replicate_succ, Array.replicate_zero, List.push_toArray, List.append_toArray, List.nil_append, List.cons_append]
  gi_wp2
  gi_loopw [4] (fun i wr => (i = .int .i64 0 ∧ J [] wr ∧ KpC n₀ W wr) ∨ (i = .int .i64 8192 ∧ J [()] wr ∧ KpC n₀ W wr)) (fun i _ => (8192 - intOf i).toNat)
  case atStart => exact .inl ⟨rfl, h0, KpC.refl _⟩
  case round =>
    rcases hrel with ⟨rfl, hJs, hkp⟩ | ⟨rfl, hJs, hkp⟩
    · have d0 : wr.cell? ⟨Bs, 0, none⟩ = some (.slice (some ⟨R, 0, none⟩) 1 c) := by simp [World.cell?, hkp.2 _ _ _ _ (.inl rfl) hBs]
      have d1 : wr.cell? ⟨Bn, 0, none⟩ = some (.int .i64 8192) := by simp [World.cell?, hkp.2 _ _ _ _ (.inr rfl) hBn]
      have hm : min (8192 : Int) 1 = 1 := by decide
      have hJd : J [] wr.drew := hJ [] wr wr.drew none hJs ⟨rfl, rfl, rfl, Nat.le_refl _, fun _ _ _ => rfl⟩ (fun r e => by cases e)
      have hkd : KpC n₀ wr wr.drew := ⟨⟨rfl, rfl, rfl, Nat.le_refl _, fun _ _ => rfl⟩, fun _ _ _ _ _ e => e⟩
      obtain ⟨fn, tmps, assign, body, hy, hRn⟩ := hY wr.drew hJd
      have hBn1 := hkd.2 _ _ _ _ (.inr rfl) (hkp.2 _ _ _ _ (.inr rfl) hBn)
      gi_wp2
      gi_region
      all_goals
        gi_wp2
        refine hRn.mono ?_
        rintro e W3 (⟨rfl, hJ3, hk3⟩ | ⟨rfl, hJx3⟩)
        · have d5 : W3.cell? ⟨Bn, 0, none⟩ = some (.int .i64 8192) := by simp [World.cell?, hk3.2 _ _ _ _ (.inr rfl) hBn1]
          gi_wp2
          exact ⟨.inr ⟨rfl, hJ3, hkp.t (hkd.t hk3)⟩, by simp [intOf]⟩
        · gi_wp2
          refine bodyPost_ret (results_none rfl _ _ _) rfl ?_
          exact ⟨⟨_, rfl⟩, .inr hJx3⟩
    · have d0 : wr.cell? ⟨Bs, 0, none⟩ = some (.slice (some ⟨R, 0, none⟩) 1 c) := by simp [World.cell?, hkp.2 _ _ _ _ (.inl rfl) hBs]
      have d1 : wr.cell? ⟨Bn, 0, none⟩ = some (.int .i64 8192) := by simp [World.cell?, hkp.2 _ _ _ _ (.inr rfl) hBn]
      gi_wp2
      go_end0
      exact ⟨⟨_, rfl⟩, .inl hJs⟩

theorem chunk_stops (F : Fence) (n : Nat) (hf : F.fn 176) (hro : F.round = none) (hn : 1 ≤ n) (Bs Bn n₀ R c : Nat) (hc : 1 ≤ c) (w : World)
    (hn₀ : n₀ ≤ w.heap.size) (hl1 : Bs < w.heap.size) (hl2 : Bn < w.heap.size) (hBs : w.heap[Bs]? = some (.cells #[.slice (some ⟨R, 0, none⟩) 1 c] 36 (0, 0))) (hBn : w.heap[Bn]? = some (.cells #[.int .i64 8192] 3 (0, 0))) :
    SeqStopsK F n Try.prog 176 #[.pointer (some ⟨Bs, 0, none⟩), .pointer (some ⟨Bn, 0, none⟩)] (fun _ : Unit => #[.slice (some ⟨R, 0, none⟩) 1 1]) (KpC n₀) (fun ys => ys = [()]) (fun _ => True) 1 w := fun l J Jx W hW hJ _ hY h0 =>
  (chunk1_in F n hf hro hn l Bs Bn n₀ R c hc J Jx W hJ (fun W' h => hY [] () W' h (by decide)) (Nat.le_trans hn₀ hW.size) ((hW.block Bs hl1).trans hBs) ((hW.block Bn hl2).trans hBn) h0).mono fun e W' ⟨h1, h2⟩ => ⟨h1, h2.elim (fun h => .inl ⟨[()], rfl, h⟩) (fun h => .inr ⟨[()], trivial, h⟩)⟩
set_option maxRecDepth 100000 in
theorem chunk_call (R c : Nat) (w : World) :
    Calls Try.prog 167 #[.slice (some ⟨R, 0, none⟩) 1 c, .int .i64 8192] w fun e w' => e = .returned (.func (.func 176) #[] #[.pointer (some ⟨w.heap.size, 0, none⟩), .pointer (some ⟨w.heap.size + 1, 0, none⟩)]) ∧ w' = (w.alloc (.cells #[.slice (some ⟨R, 0, none⟩) 1 c] 36)).alloc (.cells #[.int .i64 8192] 3) := by
  go_enter Try.func167, Try.ntmps167
  go_wp2_with fail
  go_ret
  exact ⟨rfl, rfl⟩
end Go.Proofs.Ytnbdnnbeiohmgaa
