/- grid.Cells: the iterator over a region's cells, slices.AppendSeq, slices.Collect. -/
import Derived.RangeFuncNested
import Derived.RangeFuncBound
import Derived.RangeFuncCalls
import Derived.RangeFuncLeaves
import Derived.Shelf.Abstract
import Derived.Shelf.RegionOpen
import Derived.WalkKit
import Derived.OwnWalkIn
import Derived.TacticsInMore
import Derived.LoopNIn
import Derived.LoopIn
import Derived.Test.YtnbdnnbeiohmgaaGrA
import Derived.Maps.AppendAt
import Derived.Below
import Derived.Lib.Hide
import Derived.ProofKit
namespace Go.Proofs.Ytnbdnnbeiohmgaa
open Go.RowKit Go.Shelf Go.Lib
attribute [local go_sem] Oper.semAt_some

def encC (c : Int × Int) : List Value := [.int .i64 c.1, .int .i64 c.2]
/-- the first n cells of a run -/
def rowC (r : R3) (n : Nat) : List (Int × Int) := (List.range n).map fun (j : Nat) => (r.2.1 + (j : Int), r.1)
theorem rowC_succ (r : R3) (n : Nat) : rowC r (n + 1) = rowC r n ++ [(r.2.1 + (n : Int), r.1)] := by simp [rowC, List.range_succ]
theorem rowC_len (r : R3) (n : Nat) : (rowC r n).length = n := by simp [rowC]
def cellsR (r : R3) : List (Int × Int) := rowC r (r.2.2 - r.2.1).toNat
def cellsL (l : List R3) : List (Int × Int) := l.flatMap cellsR
theorem cellsL_take {l : List R3} {k : Nat} {r : R3} (h : l[k]? = some r) : cellsL (l.take (k + 1)) = cellsL (l.take k) ++ cellsR r := by
  rw [List.take_add_one, h]
  simp [cellsL]
theorem cellsL_len : ∀ (l : List R3), (∀ r ∈ l, 0 ≤ r.2.1 ∧ r.2.2 ≤ 256) → (cellsL l).length ≤ 256 * l.length
  | [], _ => by simp [cellsL]
  | r :: l, h => by
    have h1 := h r (by simp)
    have h2 := cellsL_len l (fun x hx => h x (by simp [hx]))
    have h3 : (cellsL (r :: l)).length = (cellsR r).length + (cellsL l).length := by simp [cellsL]
    rw [h3, cellsR, rowC_len, List.length_cons]
    omega

/-- what a round of a loop over cells keeps: all that lay below, and the runs -/
def KpR (n₀ : Nat) (W W' : World) : Prop := Below n₀ W W' ∧ ∀ (k : Nat) (c : Array Value) (f : Nat × Nat), W.heap[k]? = some (.cells c 72 f) → W'.heap[k]? = some (.cells c 72 f)
theorem KpR.t {n₀ : Nat} {A B C : World} (h : KpR n₀ A B) (k : KpR n₀ B C) : KpR n₀ A C := ⟨h.1.trans k.1, fun j c f e => k.2 j c f (h.2 j c f e)⟩
theorem KpR.b {n₀ : Nat} {w : World} (hn : n₀ ≤ w.heap.size) (W : World) (l : Nat) (o o' : Obj) (hl : w.heap.size ≤ l) (h : W.heap[l]? = some o) (h1 : o.isCells = false) (h2 : o.isWalk = false) : KpR n₀ W (W.putObj l o') :=
  ⟨belowK_b hn W l o o' hl h h1 h2, fun k c f e => by
    by_cases hk : k = l
    · subst hk
      rw [h] at e
      cases e
      cases h1
    · exact (World.putObj_heap_other hk).trans e⟩
theorem KpR.alloc {n₀ : Nat} {W : World} (hn : n₀ ≤ W.heap.size) (o : Obj) : KpR n₀ W (W.alloc o) :=
  ⟨(Below.refl _ _).alloc hn o, fun k _c _f e => (Below.heap_alloc W o k (Array.getElem?_eq_some_iff.1 e).1).trans e⟩

set_option maxRecDepth 100000 in
set_option maxHeartbeats 4000000 in
theorem cells1_in (F : Fence) (n : Nat) (hf : F.fn 109) (hro : F.round = none) (hn : 1 ≤ n) (l Br n₀ nl c : Nat) (A : Option Addr) (ld : List R3) (hnl : ld.length = nl) (hbd : ∀ r ∈ ld, 0 ≤ r.2.1 ∧ r.2.2 ≤ 256) (hcap : nl ≤ 9223372036854775807)
    (J Jx : List (Int × Int) → World → Prop) (W : World) (hJ : AbidesFrom W.heap.size J)
    (hY : ∀ pre x W, J pre W → pre.length < 256 * nl → YieldAt F (n - 1) Try.prog l #[.agg #[.int .i64 x.1, .int .i64 x.2]] W fun e W' =>
      (e = .returned (.bool true) ∧ J (pre ++ [x]) W' ∧ KpR n₀ W W') ∨ (e = .returned (.bool false) ∧ Jx (pre ++ [x]) W'))
    (hn₀ : n₀ ≤ W.heap.size) (hBr : W.cell? ⟨Br, 0, none⟩ = some (.slice A nl c))
    (hA : ∀ k r, ld[k]? = some r → ∃ b off, A = some ⟨b, off, none⟩ ∧ b < n₀ ∧ W.cell? ⟨b, off + k * 3, none⟩ = some (.int .i64 r.1) ∧ W.cell? ⟨b, off + k * 3 + 1, none⟩ = some (.int .i64 r.2.1) ∧ W.cell? ⟨b, off + k * 3 + 2, none⟩ = some (.int .i64 r.2.2))
    (h0 : J [] W) :
    CallsIn F n Try.prog 109 #[.func (.yield l) #[] #[], .pointer (some ⟨Br, 0, none⟩)] W fun e W' => (∃ v, e = .returned v) ∧
      ((∃ ys, ys = cellsL ld ∧ J ys W') ∨ (∃ pre, True ∧ Jx pre W')) := by
  refine callsIn_of_wp Try.func109 rfl hf ?_ hro
  simp only [Try.ntmps109, List.size_toArray, List.length_cons, List.length_nil, Nat.reduceAdd, Nat.reduceSub, Array.replicate_succ, Array.replicate_zero, List.push_toArray, List.append_toArray, List.nil_append, List.cons_append]
  gi_wp2
  gi_loopw [8] (fun i wr => ∃ k : Nat, k ≤ nl ∧ i = .int .i64 k ∧ J (cellsL (ld.take k)) wr ∧ Below n₀ W wr ∧ W.heap.size ≤ wr.heap.size)
    (fun i _ => nl - (intOf i).toNat)
  case atStart => exact ⟨0, Nat.zero_le _, rfl, h0, Below.refl _ _, Nat.le_refl _⟩
  case round =>
    obtain ⟨k, hk, rfl, hJs, hnx, hsz⟩ := hrel
    by_cases hlt : k < nl
    · obtain ⟨⟨y, f, t⟩, hr⟩ : ∃ r, ld[k]? = some r := ⟨_, List.getElem?_eq_getElem (by omega)⟩
      obtain ⟨b, off, rfl, hb, c0, c1, c2⟩ := hA k _ hr
      have hbd' := hbd _ (List.mem_of_getElem? hr)
      have c0 := (hnx.cell (p := ⟨b, off + k * 3, none⟩) hb).trans c0
      have c1 := (hnx.cell (p := ⟨b, off + k * 3 + 1, none⟩) hb).trans c1
      have c2 := (hnx.cell (p := ⟨b, off + k * 3 + 2, none⟩) hb).trans c2
      gi_wp2
      have hx := World.alloc_heap_new wr (.cells #[.int .i64 y, .int .i64 f, .int .i64 t] 72)
      have hJx := hJ _ wr (wr.alloc (.cells #[.int .i64 y, .int .i64 f, .int .i64 t] 72)) none hJs (World.grownBy_alloc wr _ none) (fun r e => by cases e)
      have hnx := hnx.alloc (Nat.le_trans hn₀ hsz) (.cells #[.int .i64 y, .int .i64 f, .int .i64 t] 72)
      have hsz1 : W.heap.size ≤ (wr.alloc (.cells #[.int .i64 y, .int .i64 f, .int .i64 t] 72)).heap.size := by simp; omega
      obtain ⟨X, hX⟩ : ∃ X, wr.heap.size = X := ⟨_, rfl⟩
      obtain ⟨w1, hw1⟩ : ∃ w1, wr.alloc (.cells #[.int .i64 y, .int .i64 f, .int .i64 t] 72) = w1 := ⟨_, rfl⟩
      rw [hX] at hx ⊢
      rw [hw1] at hx hJx hnx hsz1 ⊢
      clear hw1 c0 c1 c2
      gi_loopw [5] (fun i wi => ∃ j : Nat, i = .int .i64 (f + j) ∧ (0 < j → f + j ≤ t) ∧ J (cellsL (ld.take k) ++ rowC (y, f, t) j) wi ∧ Below n₀ W wi ∧ W.heap.size ≤ wi.heap.size ∧ wi.heap[X]? = some (.cells #[.int .i64 y, .int .i64 f, .int .i64 t] 72 (0, 0)))
        (fun i _ => (t - intOf i).toNat)
      case atStart => exact ⟨0, by simp, by simp, by simpa [rowC] using hJx, hnx, hsz1, hx⟩
      case round =>
        obtain ⟨j, rfl, hj, hJj, hnj, hszj, hxj⟩ := hrel
        have d0 : wr.cell? ⟨X, 0, none⟩ = some (.int .i64 y) := by simp [World.cell?, hxj]
        have d2 : wr.cell? ⟨X, 2, none⟩ = some (.int .i64 t) := by simp [World.cell?, hxj]
        by_cases hlj : f + (j : Int) < t
        · have hN : (cellsL (ld.take k) ++ rowC (y, f, t) j).length < 256 * nl := by
            have h1 := cellsL_len (ld.take k) (fun r hr => hbd r (List.mem_of_mem_take hr))
            rw [List.length_append, rowC_len]
            rw [List.length_take, hnl] at h1
            try dsimp only at hbd'
            omega
          obtain ⟨fn, tmps, assign, body, hy, hR⟩ := hY _ (f + (j : Int), y) wr hJj hN
          dsimp only at hy
          try dsimp only at hbd'
          gi_wp2
          refine hR.mono ?_
          rintro e W3 (⟨rfl, hJ3, hk3⟩ | ⟨rfl, hJx3⟩)
          · have hx3 := hk3.2 _ _ _ hxj
            have d2 : W3.cell? ⟨X, 2, none⟩ = some (.int .i64 t) := by simp [World.cell?, hx3]
            gi_wp2
            go_roundw
            case rel => exact ⟨j + 1, by go_num, by omega, by rw [rowC_succ, ← List.append_assoc]; exact hJ3, hnj.trans hk3.1, Nat.le_trans hszj hk3.1.size, hx3⟩
            case measure => simp [intOf]; omega
          · gi_wp2
            refine bodyPost_ret (results_none rfl _ _ _) rfl ?_
            exact ⟨⟨_, rfl⟩, .inr ⟨_, trivial, hJx3⟩⟩
        · gi_wp2
          go_roundw
          case rel =>
            refine ⟨k + 1, by omega, by go_num, ?_, hnj, hszj⟩
            rw [cellsL_take hr]
            have e : cellsR (y, f, t) = rowC (y, f, t) j := by
              unfold cellsR
              try dsimp only at hbd' ⊢
              congr 1
              omega
            rw [e]
            exact hJj
          case measure => simp [intOf]; omega
    · obtain rfl : k = nl := by omega
      gi_wp2
      go_end0
      exact ⟨⟨_, rfl⟩, .inl ⟨_, rfl, by rwa [List.take_of_length_le (by omega)] at hJs⟩⟩

theorem cells_stops (F : Fence) (n : Nat) (hf : F.fn 109) (hro : F.round = none) (hn : 1 ≤ n) (Br n₀ nl c : Nat) (A : Option Addr) (ld : List R3) (hnl : ld.length = nl) (hbd : ∀ r ∈ ld, 0 ≤ r.2.1 ∧ r.2.2 ≤ 256) (hcap : nl ≤ 9223372036854775807)
    (w : World) (hBl : Br < w.heap.size) (hn₀ : n₀ ≤ w.heap.size) (hBr : w.cell? ⟨Br, 0, none⟩ = some (.slice A nl c))
    (hA : ∀ k r, ld[k]? = some r → ∃ b off, A = some ⟨b, off, none⟩ ∧ b < n₀ ∧ w.cell? ⟨b, off + k * 3, none⟩ = some (.int .i64 r.1) ∧ w.cell? ⟨b, off + k * 3 + 1, none⟩ = some (.int .i64 r.2.1) ∧ w.cell? ⟨b, off + k * 3 + 2, none⟩ = some (.int .i64 r.2.2)) :
    SeqStopsK F n Try.prog 109 #[.pointer (some ⟨Br, 0, none⟩)] (fun x : Int × Int => #[.agg #[.int .i64 x.1, .int .i64 x.2]]) (KpR n₀) (fun ys => ys = cellsL ld) (fun _ => True) (256 * nl) w := fun l J Jx W hW hJ _ hY h0 =>
  cells1_in F n hf hro hn l Br n₀ nl c A ld hnl hbd hcap J Jx W hJ hY (Nat.le_trans hn₀ hW.size) ((hW.cell (p := ⟨Br, 0, none⟩) hBl).trans hBr)
    (fun k r hr => by
      obtain ⟨b, off, e, hb, h1, h2, h3⟩ := hA k r hr
      exact ⟨b, off, e, hb, (hW.cell (p := ⟨b, off + k * 3, none⟩) (show b < w.heap.size by omega)).trans h1, (hW.cell (p := ⟨b, off + k * 3 + 1, none⟩) (show b < w.heap.size by omega)).trans h2, (hW.cell (p := ⟨b, off + k * 3 + 2, none⟩) (show b < w.heap.size by omega)).trans h3⟩) h0

theorem infoC : (Try.prog.info? 39).map (fun i => (i.zero, i.size, i.bytes)) = some (some (.agg #[.int .i64 0, .int .i64 0]), 2, 16) := by kernel_rfl

theorem cell_two_new (w : World) (u v : Value) (e : TypeId) : ∀ j x, [u, v][j]? = some x → (w.alloc (.cells #[u, v] e)).cell? ((⟨w.heap.size, 0, none⟩ : Addr).add j) = some x := by
  intro j x h
  rcases j with - | - | j
  · simp at h; subst h; simp [Addr.add]
  · simp at h; subst h; simp [Addr.add]
  · simp at h

/-- the block of a cell's box -/
def BoxC (W : World) (B : Nat) (x : Int × Int) : Prop := W.heap[B]? = some (.cells #[.int .i64 x.1, .int .i64 x.2] 39 (0, 0))

theorem keepRuns {W w1 : World} {n₀ m B : Nat} {v : Value} {xs : List Value} {o : Obj} (hrow : W.ownsRow n₀ 39 2 v m xs) (hg : (W.alloc o).grownBy w1 v.ownBlock) (hv1 : Boxed w1 B 36 v) (u : Value) :
    ∀ (k : Nat) (c : Array Value) (f : Nat × Nat), W.heap[k]? = some (.cells c 72 f) → (w1.setCell ⟨B, 0, none⟩ u).heap[k]? = some (.cells c 72 f) := by
  intro k c f h
  have hlt := (Array.getElem?_eq_some_iff.1 h).1
  have h1 : w1.heap[k]? = some (.cells c 72 f) := by
    refine (hg.block k (by simp; omega) (fun e => ?_)).trans ((Below.heap_alloc W o k hlt).trans h)
    rcases hrow.2 with ⟨rfl, _⟩ | ⟨g, cap, cur, rfl, _, hgb, _⟩
    · simp [Value.ownBlock] at e
    · obtain rfl : k = g := by simpa [Value.ownBlock] using e
      rw [h] at hgb
      simp at hgb
  refine ((grownBy_setCell' w1 B u).block k (Array.getElem?_eq_some_iff.1 h1).1 (fun e => ?_)).trans h1
  obtain rfl : k = B := by simpa using e
  rw [show w1.heap[k]? = _ from hv1] at h1
  simp at h1

set_option maxRecDepth 100000 in
set_option maxHeartbeats 4000000 in
theorem appendSeq_in (F : Fence) (n gf : Nat) (lb : Array Value) (h108 : F.fn 108) (hF : F.fn gf) (hro : F.round = none) (hn : 3 ≤ n) (eg : ∀ args w, (callFunc gf args).run Try.prog w = .ok (.enter gf args) w)
    (n₀ N : Nat) (L : List (Int × Int)) (hN : N ≤ 100000000) (w : World) (hn₀ : n₀ ≤ w.heap.size)
    (hseq : SeqStopsK F (n - 1) Try.prog gf lb (fun x : Int × Int => #[.agg #[.int .i64 x.1, .int .i64 x.2]]) (KpR n₀) (fun ys => ys = L) (fun _ => True) N w) :
    CallsIn F n Try.prog 108 #[.slice none 0 0, .func (.func gf) #[] lb] w fun e W' => ∃ v, e = .returned v ∧ W'.ownsRow w.heap.size 39 2 v L.length (L.flatMap encC) ∧ Below w.heap.size w W' := by
  have h1 : 1 ≤ n := by omega
  obtain ⟨i0, hi, hz0, hz1, hz2⟩ := info_parts infoC
  refine callsIn_of_wp_marks Try.func108 rfl h108 ?_ hro
  simp only [Try.ntmps108, List.size_toArray, List.length_cons, List.length_nil, Nat.reduceAdd, Nat.reduceSub, Array.replicate_succ, Array.replicate_zero, List.push_toArray, List.append_toArray, List.nil_append, List.cons_append]
  gi_wp2
  have bS := Boxed.new w 36 (.slice none 0 0)
  have hB0 : Below w.heap.size w (w.alloc (.cells #[.slice none 0 0] 36)) := (Below.refl _ w).alloc (Nat.le_refl _) _
  have hsz : (w.alloc (.cells #[.slice none 0 0] 36)).heap.size = w.heap.size + 1 := by simp
  obtain ⟨W0, hW0⟩ : ∃ W0, w.alloc (.cells #[.slice none 0 0] 36) = W0 := ⟨_, rfl⟩
  rw [hW0] at bS hB0 hsz ⊢
  clear hW0
  refine wpIn_rangeFunc_ownH hro h1 (gf := gf) (lb := lb) rfl hF eg hseq KpR.t (KpR.b (by omega)) hB0 (fun _ => rfl)
    (fun pre W => (∃ v, Boxed W w.heap.size 36 v ∧ W.ownsRow w.heap.size 39 2 v pre.length (pre.flatMap encC) ∧ True) ∧ Below w.heap.size w W)
    (fun _ _ _ => False)
    (OwnFrom.and (Own.from (holdsRow_own w.heap.size w.heap.size 36 39 2 (fun (pre : List (Int × Int)) => pre.length) (fun pre => pre.flatMap encC) (fun _ _ => True)) _) (ownFrom_below (Nat.le_refl _) (by omega)))
    (fun _ _ _ _ _ hs _ _ => hs)
    ⟨⟨_, bS, World.ownsRow_nil _ _ _ _, trivial⟩, hB0⟩
    (fun x a' W => ∃ Bx, w.heap.size < Bx ∧ BoxC W Bx x ∧ a' = { tmps := #[.slice none 0 0, .func (.func gf) #[] lb, .pointer (some ⟨w.heap.size, 0, none⟩), undef, .slice none 0 0, .pointer (some ⟨Bx, 0, none⟩), .func (.func gf) #[] lb, .agg #[.int .i64 x.1, .int .i64 x.2], undef, undef, undef, undef, undef], defers := [] })
    (fun x a' _ X Y row hs hg hr => by
      obtain ⟨Bx, h1, h2, h3⟩ := hs
      refine ⟨Bx, h1, (hg.block Bx (Array.getElem?_eq_some_iff.1 h2).1 (fun e => ?_)).trans h2, h3⟩
      obtain ⟨o, ho, hc⟩ := (hr Bx e.symm).2
      rw [show X.heap[Bx]? = _ from h2] at ho
      cases ho
      cases hc)
    ?assign ?body ?done ?stop
  case assign =>
    rintro l pre x W K ⟨⟨v, bS1, hrow, -⟩, hB1⟩ hK
    gi_wp2
    exact hK _ _ ((KeepsOthers.alloc _ _).from _) (KpR.alloc (Nat.le_trans hn₀ hB1.size) _) ⟨⟨v, bS1.alloc _, hrow.alloc _, trivial⟩, hB1.alloc hB1.size _⟩ ⟨W.heap.size, bS1.lt, World.alloc_heap_new W _, rfl⟩
  case body =>
    rintro l pre x a' W hl ⟨r, hr⟩ ⟨⟨v, hv, hrow, -⟩, hB⟩ ⟨Bx, hBx, bX, rfl⟩ hlt
    have hc := hv.cell
    have x0 : W.cell? ⟨Bx, 0, none⟩ = some (.int .i64 x.1) := by simp [World.cell?, show W.heap[Bx]? = _ from bX]
    have x1 : W.cell? ⟨Bx, 1, none⟩ = some (.int .i64 x.2) := by simp [World.cell?, show W.heap[Bx]? = _ from bX]
    gi_wp2_with (gi_at_builtin; refine wpListIn_append_own _ rfl _ _ 36 rfl w.heap.size 39 i0 (.agg #[.int .i64 0, .int .i64 0]) 2 16 Try.underlying36 hi hz0 hz1 hz2 rfl (by decide) _ _ _ rfl (hrow.alloc _) ⟨W.heap.size, 0, none⟩ 1 1 [.int .i64 x.1, .int .i64 x.2] rfl rfl (cell_two_new _ _ _ _) (by simp [Value.oneCell']) (by unfold maxLen; omega) (by omega) (by have := hB.size; simp; omega) ?_; intro v' w1 hown' hgrow _; obtain ⟨g', cap', rfl⟩ := ownsRow_succ hown'; obtain ⟨hv1, hv2, hr2, hk2, hb2⟩ := hv.appended (by decide) hrow hB.size (Nat.le_refl _) hown' hgrow; have hc1 := hv1.cell; have hf1 := hv1.frozen)
    exact ⟨hk2.from _, ⟨hb2.mono hn₀, keepRuns hrow hgrow hv1 _⟩, ⟨⟨_, hv2, by simpa [encC] using hr2, trivial⟩, hB.trans hb2⟩⟩
  case done =>
    rintro D ys W hD rfl ⟨⟨v, hv, hrow, -⟩, hB⟩ hK
    have hc := hv.cell
    gi_wp2
    refine ⟨by simp, .inl ⟨_, _, rfl, run_takeDeferred hK, ?_⟩⟩
    exact ⟨_, results_tmp rfl _ _ _, v, rfl, ownsRow_putObj hrow _ hK rfl, hB.trans (belowK_b (w := w) (Nat.le_refl _) W D _ _ (by omega) hK rfl rfl)⟩
  case stop =>
    rintro D c pre W _ _ h _
    exact h.elim

set_option maxRecDepth 100000 in
set_option maxHeartbeats 4000000 in
theorem collect_in (F : Fence) (n gf : Nat) (lb : Array Value) (h56 : F.fn 56) (h108 : F.fn 108) (hF : F.fn gf) (hro : F.round = none) (hn : 4 ≤ n) (eg : ∀ args w, (callFunc gf args).run Try.prog w = .ok (.enter gf args) w)
    (n₀ N : Nat) (L : List (Int × Int)) (hN : N ≤ 100000000) (w : World) (hn₀ : n₀ ≤ w.heap.size)
    (hseq : SeqStopsK F (n - 1 - 1) Try.prog gf lb (fun x : Int × Int => #[.agg #[.int .i64 x.1, .int .i64 x.2]]) (KpR n₀) (fun ys => ys = L) (fun _ => True) N w) :
    CallsIn F n Try.prog 56 #[.func (.func gf) #[] lb] w fun e W' => ∃ v, e = .returned v ∧ W'.ownsRow w.heap.size 39 2 v L.length (L.flatMap encC) ∧ Below w.heap.size w W' := by
  have h1 : 1 ≤ n := by omega
  refine callsIn_of_wp Try.func56 rfl h56 ?_ hro
  simp only [Try.ntmps56, List.size_toArray, List.length_cons, List.length_nil, Nat.reduceAdd, Nat.reduceSub, Array.replicate_succ, Array.replicate_zero, List.push_toArray, List.append_toArray, List.nil_append, List.cons_append]
  gi_wp2_with (gi_at_call 108; refine (appendSeq_in F (n - 1) gf lb h108 hF hro (by omega) eg n₀ N L hN w hn₀ hseq).mono ?_; rintro e W' ⟨v, rfl, hv⟩)
  go_ret
  exact ⟨_, rfl, hv⟩

set_option maxRecDepth 100000 in
theorem cells_in (F : Fence) (n : Nat) (h57 : F.fn 57) (hro : F.round = none) (A : Option Addr) (nl c : Nat) (w : World) :
    CallsIn F n Try.prog 57 #[.slice A nl c] w fun e w' => e = .returned (.func (.func 109) #[] #[.pointer (some ⟨w.heap.size, 0, none⟩)]) ∧ w' = w.alloc (.cells #[.slice A nl c] 22) := by
  refine callsIn_of_wp Try.func57 rfl h57 ?_ hro
  simp only [Try.ntmps57, List.size_toArray, List.length_cons, List.length_nil, Nat.reduceAdd, Nat.reduceSub, Array.replicate_succ, Array.replicate_zero, List.push_toArray, List.append_toArray, List.nil_append, List.cons_append]
  gi_wp2
  go_ret
  exact ⟨rfl, rfl⟩

/-- slices.Collect of the cells of a region that lies in the memory -/
theorem collect_cells (A : Option Addr) (nl c n₀ : Nat) (ld : List R3) (hnl : ld.length = nl) (hbd : ∀ r ∈ ld, 0 ≤ r.2.1 ∧ r.2.2 ≤ 256) (hcap : nl ≤ 300000) (Br : Nat) (w : World) (hBl : Br < w.heap.size) (hn₀ : n₀ ≤ w.heap.size) (hBr : w.cell? ⟨Br, 0, none⟩ = some (.slice A nl c))
    (hA : ∀ k r, ld[k]? = some r → ∃ b off, A = some ⟨b, off, none⟩ ∧ b < n₀ ∧ w.cell? ⟨b, off + k * 3, none⟩ = some (.int .i64 r.1) ∧ w.cell? ⟨b, off + k * 3 + 1, none⟩ = some (.int .i64 r.2.1) ∧ w.cell? ⟨b, off + k * 3 + 2, none⟩ = some (.int .i64 r.2.2)) :
    Calls Try.prog 56 #[.func (.func 109) #[] #[.pointer (some ⟨Br, 0, none⟩)]] w fun e W' => ∃ v, e = .returned v ∧ W'.ownsRow w.heap.size 39 2 v (cellsL ld).length ((cellsL ld).flatMap encC) ∧ Below w.heap.size w W' :=
  callsIn_wide.1 (collect_in Fence.wide 9 109 _ trivial trivial trivial rfl (by omega) (enters_of Try.func109 (by kernel_rfl) rfl) n₀ (256 * nl) (cellsL ld) (by omega) w hn₀
    (cells_stops Fence.wide 7 trivial rfl (by omega) Br n₀ nl c A ld hnl hbd (by omega) w hBl hn₀ hBr hA))
theorem cells_call (A : Option Addr) (nl c : Nat) (w : World) :
    Calls Try.prog 57 #[.slice A nl c] w fun e w' => e = .returned (.func (.func 109) #[] #[.pointer (some ⟨w.heap.size, 0, none⟩)]) ∧ w' = w.alloc (.cells #[.slice A nl c] 22) :=
  callsIn_wide.1 (cells_in Fence.wide 9 trivial rfl A nl c w)
end Go.Proofs.Ytnbdnnbeiohmgaa
