/- share: the iterator over the statements between two vectors, slices.AppendSeq, slices.Collect. -/
import Derived.RangeFuncNested
import Derived.RangeFuncBound
import Derived.RangeFuncCalls
import Derived.RangeFuncLeaves
import Derived.Shelf.Abstract
import Derived.Shelf.RegionOpen
import Derived.WalkKit
import Derived.OwnWalkIn
import Derived.TacticsInMore
import Derived.LoopNIn
import Derived.LoopIn
import Derived.Maps.AppendAt
import Derived.Test.YtngigogaiheckaaShTake
namespace Go.Proofs.Ytngigogaiheckaa
open Go.RowKit Go.Shelf Go.Lib Go.Maps
attribute [local go_sem] Oper.semAt_some

/-- what lies where the iterator was made: the boxes of the picture and of the two vectors, and the picture's map -/
structure Btw (W : World) (B p m : Nat) (v u : Nat → Nat) (arr : List Sd) : Prop where
  bp : W.heap[B]? = some (.cells #[.pointer (some ⟨p, 0, none⟩)] 30 (0, 0))
  bv : VecAt W (B + 1) v
  bu : VecAt W (B + 2) u
  c1 : W.cell? ⟨p, 1, none⟩ = some (.map (some m))
  mp : There W m arr.length arr
/-- what a round keeps: all below n₀, and the three boxes -/
def KpB (n₀ B : Nat) (W W' : World) : Prop := Below n₀ W W' ∧ ∀ k, B ≤ k → k < B + 3 → k < W.heap.size → W'.heap[k]? = W.heap[k]?
theorem KpB.t {n₀ B : Nat} {A C D : World} (h : KpB n₀ B A C) (k : KpB n₀ B C D) : KpB n₀ B A D := ⟨h.1.trans k.1, fun j h1 h2 h3 => (k.2 j h1 h2 (Nat.lt_of_lt_of_le h3 h.1.size)).trans (h.2 j h1 h2 h3)⟩
theorem KpB.b {n₀ B : Nat} {w : World} (hn : n₀ ≤ w.heap.size) (hB : B + 3 ≤ w.heap.size) (W : World) (l : Nat) (o o' : Obj) (hl : w.heap.size ≤ l) (h : W.heap[l]? = some o) (h1 : o.isCells = false) (h2 : o.isWalk = false) : KpB n₀ B W (W.putObj l o') :=
  ⟨belowK_b hn W l o o' hl h h1 h2, fun k _ h4 _ => World.putObj_heap_other (by omega)⟩
theorem KpB.of_below {n₀ B N : Nat} {W W' : World} (h : Below N W W') (h1 : n₀ ≤ N) (h2 : B + 3 ≤ N) : KpB n₀ B W W' := ⟨h.mono h1, fun k _ hk _ => h.block k (by omega)⟩
theorem Btw.keep {W W' : World} {n₀ B p m : Nat} {v u : Nat → Nat} {arr : List Sd} (h : Btw W B p m v u arr) (hp : p < n₀) (hm : m < n₀) (hk : KpB n₀ B W W') : Btw W' B p m v u arr := by
  have l0 := (Array.getElem?_eq_some_iff.1 h.bp).1
  have l1 := h.bv.lt
  have l2 := h.bu.lt
  exact ⟨(hk.2 B (Nat.le_refl _) (by omega) l0).trans h.bp, (hk.2 (B + 1) (by omega) (by omega) l1).trans h.bv, (hk.2 (B + 2) (by omega) (by omega) l2).trans h.bu, (hk.1.cell (p := ⟨p, 1, none⟩) hp).trans h.c1, h.mp.of_block (hk.1.block m hm)⟩
theorem betw_len8 (arr : List Sd) (v u : Nat → Nat) (hu : ∀ c, c < 8 → u c ≤ 1000) (c : Nat) (hc : c ≤ 8) : (betw arr v u c).length ≤ c * 1000 := betw_len arr v u 1000 c fun i hi => hu i (by omega)

set_option maxRecDepth 100000 in
set_option maxHeartbeats 4000000 in
theorem btw1_in (F : Fence) (n : Nat) (hf : F.fn 64) (hro : F.round = none) (hn : 1 ≤ n) (l B p m n₀ : Nat) (v u : Nat → Nat) (arr : List Sd) (hv8 : ∀ c, c < 8 → v c ≤ 1000) (hu8 : ∀ c, c < 8 → u c ≤ 1000)
    (P : Sd → Prop) (hP : ∀ s, s ∈ betw arr v u 8 → P s) (J Jx : List Sd → World → Prop) (W : World)
    (hY : ∀ pre x W, P x → J pre W → pre.length < 8000 → YieldAt F (n - 1) Try.prog l #[valSd x] W fun e W' =>
      (e = .returned (.bool true) ∧ J (pre ++ [x]) W' ∧ KpB n₀ B W W') ∨ (e = .returned (.bool false) ∧ Jx (pre ++ [x]) W'))
    (hp : p < n₀) (hm : m < n₀) (hb : Btw W B p m v u arr) (h0 : J [] W) :
    CallsIn F n Try.prog 64 #[.func (.yield l) #[] #[], .pointer (some ⟨B + 1, 0, none⟩), .pointer (some ⟨B + 2, 0, none⟩), .pointer (some ⟨B, 0, none⟩)] W fun e W' => (∃ v, e = .returned v) ∧
      ((∃ ys, ys = betw arr v u 8 ∧ J ys W') ∨ (∃ pre, True ∧ Jx pre W')) := by
  refine callsIn_of_wp Try.func64 rfl hf ?_ hro
  simp only [Try.ntmps64, List.size_toArray, List.length_cons, List.length_nil, Nat.reduceAdd, Nat.reduceSub, Array.replicate_succ, Array.replicate_zero, List.push_toArray, List.append_toArray, List.nil_append, List.cons_append]
  gi_wp2
  gi_loopw [7] (fun i wr => ∃ k : Nat, k ≤ 8 ∧ i = .int .i64 k ∧ J (betw arr v u k) wr ∧ Btw wr B p m v u arr)
    (fun i _ => 8 - (intOf i).toNat)
  case atStart => exact ⟨0, Nat.zero_le _, rfl, h0, hb⟩
  case round =>
    obtain ⟨k, hk, rfl, hJs, hbs⟩ := hrel
    by_cases hlt : k < 8
    · have hvk := hv8 k hlt
      have huk := hu8 k hlt
      have hlen := betw_len8 arr v u hu8 k hk
      have cv := hbs.bv.cell hlt
      have hk1 : (k : Int) < 8 := by omega
      have hk0 : (0 : Int) ≤ k := by omega
      have hw1 : IntKind.i64.wrap ((v k : Int) + 1) = v k + 1 := wrapK _ (by omega) (by omega)
      have hw2 : wrap64 ((v k : Int) + 1) = v k + 1 := wrapId _ (by omega) (by omega)
      gi_wp2
      gi_loopw [6] (fun i wi => ∃ j : Nat, i = .int .i64 ((v k : Int) + 1 + j) ∧ j ≤ u k - v k ∧ J (betw arr v u k ++ rowP arr ((k + 1 : Nat) : Int) (v k) j) wi ∧ Btw wi B p m v u arr)
        (fun i _ => (u k + 1 - intOf i).toNat)
      case atStart => exact ⟨0, by simp, Nat.zero_le _, by simpa [rowP] using hJs, hbs⟩
      case round =>
        obtain ⟨j, rfl, hj, hJj, hbj⟩ := hrel
        have cu := hbj.bu.cell hlt
        by_cases hlj : v k + 1 + j ≤ u k
        · have hN : (betw arr v u k ++ rowP arr ((k + 1 : Nat) : Int) (v k) j).length < 8000 := by
            rw [List.length_append, rowP_len]
            omega
          have ic : isI64 (k : Int) := isI64_of (by omega)
          have ij : isI64 ((v k : Int) + 1 + j) := isI64_of (by omega)
          have hlk := hbj.mp.look ic ij
          obtain ⟨s, hs⟩ : ∃ s, getP arr ((k + 1 : Nat) : Int) ((v k + j + 1 : Nat) : Int) = s := ⟨_, rfl⟩
          rw [show getP arr ((k : Int) + 1) ((v k : Int) + 1 + j) = s by rw [← hs]; congr 1; omega] at hlk
          have hPs : P s := hP s (mem_betw.2 ⟨k, v k + j + 1, hlt, by omega, by omega, hs.symm⟩)
          obtain ⟨fn, tmps, assign, body, hy, hR⟩ := hY _ s wr hPs hJj hN
          have c0 : wr.cell? ⟨B, 0, none⟩ = some (.pointer (some ⟨p, 0, none⟩)) := by simp [World.cell?, hbj.bp]
          have c1 := hbj.c1
          have hle : ((v k : Int) + 1 + j ≤ u k) = True := by simp only [eq_iff_iff, iff_true]; omega
          have hw3 : IntKind.i64.wrap ((v k : Int) + 1 + j + 1) = v k + 1 + j + 1 := wrapK _ (by omega) (by omega)
          gi_wp2
          refine hR.mono ?_
          rintro e W3 (⟨rfl, hJ3, hk3⟩ | ⟨rfl, hJx3⟩)
          · gi_wp2
            go_roundw
            case rel => exact ⟨j + 1, by go_num, by omega, by rw [rowP_succ, ← List.append_assoc, hs]; exact hJ3, hbj.keep hp hm hk3⟩
            case measure => simp [intOf]; omega
          · gi_wp2
            refine bodyPost_ret (results_none rfl _ _ _) rfl ?_
            exact ⟨⟨_, rfl⟩, .inr ⟨_, trivial, hJx3⟩⟩
        · have hle : ((v k : Int) + 1 + j ≤ u k) = False := by simp only [eq_iff_iff, iff_false]; omega
          gi_wp2
          go_roundw
          case rel =>
            refine ⟨k + 1, by omega, by go_num, ?_, hbj⟩
            rw [betw_succ, show u k - v k = j by omega]
            exact hJj
          case measure => simp [intOf]; omega
    · obtain rfl : k = 8 := by omega
      gi_wp2
      go_end0
      exact ⟨⟨_, rfl⟩, .inl ⟨_, rfl, hJs⟩⟩

theorem btw_stops (F : Fence) (n : Nat) (hf : F.fn 64) (hro : F.round = none) (hn : 1 ≤ n) (B p m n₀ : Nat) (v u : Nat → Nat) (arr : List Sd) (hv8 : ∀ c, c < 8 → v c ≤ 1000) (hu8 : ∀ c, c < 8 → u c ≤ 1000)
    (w : World) (hp : p < n₀) (hm : m < n₀) (hn₀ : n₀ ≤ w.heap.size) (hB : B + 3 ≤ w.heap.size) (hb : Btw w B p m v u arr) :
    SeqStopsK F n Try.prog 64 #[.pointer (some ⟨B + 1, 0, none⟩), .pointer (some ⟨B + 2, 0, none⟩), .pointer (some ⟨B, 0, none⟩)] (fun x : Sd => #[valSd x]) (KpB n₀ B) (fun ys => ys = betw arr v u 8) (fun _ => True) 8000 w := fun l J Jx W hW _ _ hY h0 =>
  btw1_in F n hf hro hn l B p m n₀ v u arr hv8 hu8 (fun _ => True) (fun _ _ => trivial) J Jx W (fun pre x W _ => hY pre x W) hp hm (hb.keep hp hm (.of_below hW hn₀ hB)) h0

/-- .. of statements of a kind -/
theorem btwP_stops (P : Sd → Prop) (F : Fence) (n : Nat) (hf : F.fn 64) (hro : F.round = none) (hn : 1 ≤ n) (B p m n₀ : Nat) (v u : Nat → Nat) (arr : List Sd) (hP : ∀ s, s ∈ betw arr v u 8 → P s) (hv8 : ∀ c, c < 8 → v c ≤ 1000) (hu8 : ∀ c, c < 8 → u c ≤ 1000)
    (w : World) (hp : p < n₀) (hm : m < n₀) (hn₀ : n₀ ≤ w.heap.size) (hB : B + 3 ≤ w.heap.size) (hb : Btw w B p m v u arr) :
    SeqStopsK F n Try.prog 64 #[.pointer (some ⟨B + 1, 0, none⟩), .pointer (some ⟨B + 2, 0, none⟩), .pointer (some ⟨B, 0, none⟩)] (fun x : { s : Sd // P s } => #[valSd x.1]) (KpB n₀ B) (fun ys => ys.map (·.1) = betw arr v u 8) (fun _ => True) 8000 w := fun l J Jx W hW _ _ hY h0 =>
  (btw1_in F n hf hro hn l B p m n₀ v u arr hv8 hu8 P hP (fun pre W => ∃ ys : List { s : Sd // P s }, ys.map (·.1) = pre ∧ J ys W) (fun pre W => ∃ ys : List { s : Sd // P s }, ys.map (·.1) = pre ∧ Jx ys W) W
    (fun pre x W hx hJ hl => by
      obtain ⟨ys, rfl, hJ⟩ := hJ
      obtain ⟨fn, tmps, assign, body, hy, hR⟩ := hY ys ⟨x, hx⟩ W hJ (by simpa using hl)
      refine ⟨fn, tmps, assign, body, hy, hR.mono ?_⟩
      rintro e W' (⟨h1, h2, h3⟩ | ⟨h1, h2⟩)
      · exact .inl ⟨h1, ⟨_, by simp, h2⟩, h3⟩
      · exact .inr ⟨h1, ⟨_, by simp, h2⟩⟩) hp hm (hb.keep hp hm (.of_below hW hn₀ hB)) ⟨[], rfl, h0⟩).mono fun e W' ⟨h1, h2⟩ => ⟨h1, by
    rcases h2 with ⟨ys, rfl, zs, hz, hJ⟩ | ⟨pre, _, zs, -, hJ⟩
    · exact .inl ⟨zs, hz, hJ⟩
    · exact .inr ⟨zs, trivial, hJ⟩⟩

/-- the block of a statement's box -/
def BoxS (W : World) (B : Nat) (x : Sd) : Prop := W.heap[B]? = some (.cells #[.int .i64 x.c, .int .i64 x.n, .string x.key, .string x.val, .int .i64 x.time, .int .i64 x.trust, .int .i64 x.back] 38 (0, 0))
theorem seven_new (w : World) (x : Sd) (e : TypeId) : ∀ j y, (encSd x)[j]? = some y → (w.alloc (.cells #[.int .i64 x.c, .int .i64 x.n, .string x.key, .string x.val, .int .i64 x.time, .int .i64 x.trust, .int .i64 x.back] e)).cell? ((⟨w.heap.size, 0, none⟩ : Addr).add j) = some y :=
  newsLit (cs := #[.int .i64 x.c, .int .i64 x.n, .string x.key, .string x.val, .int .i64 x.time, .int .i64 x.trust, .int .i64 x.back]) rfl

set_option maxRecDepth 100000 in
set_option maxHeartbeats 4000000 in
theorem appendSeq_in (F : Fence) (n gf : Nat) (lb : Array Value) (h108 : F.fn 63) (hF : F.fn gf) (hro : F.round = none) (hn : 3 ≤ n) (eg : ∀ args w, (callFunc gf args).run Try.prog w = .ok (.enter gf args) w)
    (n₀ B0 N : Nat) (L : List Sd) (hN : N ≤ 100000000) (w : World) (hn₀ : n₀ ≤ w.heap.size) (hB3 : B0 + 3 ≤ w.heap.size)
    (hseq : SeqStopsK F (n - 1) Try.prog gf lb (fun x : Sd => #[valSd x]) (KpB n₀ B0) (fun ys => ys = L) (fun _ => True) N w) :
    CallsIn F n Try.prog 63 #[.slice none 0 0, .func (.func gf) #[] lb] w fun e W' => ∃ v, e = .returned v ∧ W'.ownsRow w.heap.size 38 7 v L.length (flatE encSd L) ∧ Below w.heap.size w W' := by
  have h1 : 1 ≤ n := by omega
  obtain ⟨i0, hi, hz0, hz1, hz2⟩ := info_parts infoS
  refine callsIn_of_wp_marks Try.func63 rfl h108 ?_ hro
  simp only [Try.ntmps63, List.size_toArray, List.length_cons, List.length_nil, Nat.reduceAdd, Nat.reduceSub, Array.replicate_succ, Array.replicate_zero, List.push_toArray, List.append_toArray, List.nil_append, List.cons_append]
  gi_wp2
  have bS := Boxed.new w 26 (.slice none 0 0)
  have hB0 : Below w.heap.size w (w.alloc (.cells #[.slice none 0 0] 26)) := (Below.refl _ w).alloc (Nat.le_refl _) _
  have hsz : (w.alloc (.cells #[.slice none 0 0] 26)).heap.size = w.heap.size + 1 := by simp
  obtain ⟨W0, hW0⟩ : ∃ W0, w.alloc (.cells #[.slice none 0 0] 26) = W0 := ⟨_, rfl⟩
  rw [hW0] at bS hB0 hsz ⊢
  clear hW0
  refine wpIn_rangeFunc_ownH hro h1 (gf := gf) (lb := lb) rfl hF eg hseq KpB.t (KpB.b (by omega) (by omega)) hB0 (fun _ => rfl)
    (fun pre W => (∃ v, Boxed W w.heap.size 26 v ∧ W.ownsRow w.heap.size 38 7 v pre.length (flatE encSd pre) ∧ True) ∧ Below w.heap.size w W)
    (fun _ _ _ => False)
    (OwnFrom.and (Own.from (holdsRow_own w.heap.size w.heap.size 26 38 7 (fun (pre : List Sd) => pre.length) (fun pre => flatE encSd pre) (fun _ _ => True)) _) (ownFrom_below (Nat.le_refl _) (by omega)))
    (fun _ _ _ _ _ hs _ _ => hs)
    ⟨⟨_, bS, World.ownsRow_nil _ _ _ _, trivial⟩, hB0⟩
    (fun x a' W => ∃ Bx, w.heap.size < Bx ∧ BoxS W Bx x ∧ a' = { tmps := #[.slice none 0 0, .func (.func gf) #[] lb, .pointer (some ⟨w.heap.size, 0, none⟩), undef, .slice none 0 0, .pointer (some ⟨Bx, 0, none⟩), .func (.func gf) #[] lb, valSd x, undef, undef, undef, undef, undef], defers := [] })
    (fun x a' _ X Y row hs hg hr => by
      obtain ⟨Bx, h1, h2, h3⟩ := hs
      refine ⟨Bx, h1, (hg.block Bx (Array.getElem?_eq_some_iff.1 h2).1 (fun e => ?_)).trans h2, h3⟩
      obtain ⟨o, ho, hc⟩ := (hr Bx e.symm).2
      rw [show X.heap[Bx]? = _ from h2] at ho
      cases ho
      cases hc)
    ?assign ?body ?done ?stop
  case assign =>
    rintro l pre ⟨xc, xn, xk, xv, xt, xu, xb⟩ W K ⟨⟨v, bS1, hrow, -⟩, hB1⟩ hK
    dsimp only [valSd] at hK ⊢
    gi_wp2
    exact hK _ _ ((KeepsOthers.alloc _ _).from _) (.of_below ((Below.refl _ _).alloc (Nat.le_refl _) _) (Nat.le_trans hn₀ hB1.size) (Nat.le_trans hB3 hB1.size)) ⟨⟨v, bS1.alloc _, hrow.alloc _, trivial⟩, hB1.alloc hB1.size _⟩ ⟨W.heap.size, bS1.lt, World.alloc_heap_new W _, rfl⟩
  case body =>
    rintro l pre ⟨xc, xn, xk, xv, xt, xu, xb⟩ a' W hl ⟨r, hr⟩ ⟨⟨v, hv, hrow, -⟩, hB⟩ ⟨Bx, hBx, bX, rfl⟩ hlt
    have hc := hv.cell
    have x0 : W.cell? ⟨Bx, 0, none⟩ = some (.int .i64 xc) := by simp [World.cell?, show W.heap[Bx]? = _ from bX]
    have x1 : W.cell? ⟨Bx, 1, none⟩ = some (.int .i64 xn) := by simp [World.cell?, show W.heap[Bx]? = _ from bX]
    have x2 : W.cell? ⟨Bx, 2, none⟩ = some (.string xk) := by simp [World.cell?, show W.heap[Bx]? = _ from bX]
    have x3 : W.cell? ⟨Bx, 3, none⟩ = some (.string xv) := by simp [World.cell?, show W.heap[Bx]? = _ from bX]
    have x4 : W.cell? ⟨Bx, 4, none⟩ = some (.int .i64 xt) := by simp [World.cell?, show W.heap[Bx]? = _ from bX]
    have x5 : W.cell? ⟨Bx, 5, none⟩ = some (.int .i64 xu) := by simp [World.cell?, show W.heap[Bx]? = _ from bX]
    have x6 : W.cell? ⟨Bx, 6, none⟩ = some (.int .i64 xb) := by simp [World.cell?, show W.heap[Bx]? = _ from bX]
    gi_wp2_with (gi_at_builtin; refine wpListIn_append_own _ rfl _ _ 26 rfl w.heap.size 38 i0 _ 7 72 Try.underlying26 hi hz0 hz1 hz2 rfl (by decide) _ _ _ rfl (hrow.alloc _) ⟨W.heap.size, 0, none⟩ 1 1 (encSd ⟨xc, xn, xk, xv, xt, xu, xb⟩) rfl rfl (seven_new W ⟨xc, xn, xk, xv, xt, xu, xb⟩ _) (by simp [encSd, Value.oneCell']) (by unfold maxLen; omega) (by omega) (by have := hB.size; simp; omega) ?_; intro v' w1 hown' hgrow _; obtain ⟨g', cap', rfl⟩ := ownsRow_succ hown'; obtain ⟨hv1, hv2, hr2, hk2, hb2⟩ := hv.appended (by decide) hrow hB.size (Nat.le_refl _) hown' hgrow; have hc1 := hv1.cell; have hf1 := hv1.frozen)
    exact ⟨hk2.from _, .of_below hb2 hn₀ hB3, ⟨⟨_, hv2, by rw [flatE_append]; simpa [flatE] using hr2, trivial⟩, hB.trans hb2⟩⟩
  case done =>
    rintro D ys W hD rfl ⟨⟨v, hv, hrow, -⟩, hB⟩ hK
    have hc := hv.cell
    gi_wp2
    refine ⟨by simp, .inl ⟨_, _, rfl, run_takeDeferred hK, ?_⟩⟩
    exact ⟨_, results_tmp rfl _ _ _, v, rfl, ownsRow_putObj hrow _ hK rfl, hB.trans (belowK_b (w := w) (Nat.le_refl _) W D _ _ (by omega) hK rfl rfl)⟩
  case stop =>
    rintro D c pre W _ _ h _
    exact h.elim

set_option maxRecDepth 100000 in
set_option maxHeartbeats 4000000 in
theorem collect_in (F : Fence) (n gf : Nat) (lb : Array Value) (h56 : F.fn 45) (h108 : F.fn 63) (hF : F.fn gf) (hro : F.round = none) (hn : 4 ≤ n) (eg : ∀ args w, (callFunc gf args).run Try.prog w = .ok (.enter gf args) w)
    (n₀ B0 N : Nat) (L : List Sd) (hN : N ≤ 100000000) (w : World) (hn₀ : n₀ ≤ w.heap.size) (hB3 : B0 + 3 ≤ w.heap.size)
    (hseq : SeqStopsK F (n - 1 - 1) Try.prog gf lb (fun x : Sd => #[valSd x]) (KpB n₀ B0) (fun ys => ys = L) (fun _ => True) N w) :
    CallsIn F n Try.prog 45 #[.func (.func gf) #[] lb] w fun e W' => ∃ v, e = .returned v ∧ W'.ownsRow w.heap.size 38 7 v L.length (flatE encSd L) ∧ Below w.heap.size w W' := by
  have h1 : 1 ≤ n := by omega
  refine callsIn_of_wp Try.func45 rfl h56 ?_ hro
  simp only [Try.ntmps45, List.size_toArray, List.length_cons, List.length_nil, Nat.reduceAdd, Nat.reduceSub, Array.replicate_succ, Array.replicate_zero, List.push_toArray, List.append_toArray, List.nil_append, List.cons_append]
  gi_wp2_with (gi_at_call 63; refine (appendSeq_in F (n - 1) gf lb h108 hF hro (by omega) eg n₀ B0 N L hN w hn₀ hB3 hseq).mono ?_; rintro e W' ⟨v, rfl, hv⟩)
  go_ret
  exact ⟨_, rfl, hv⟩

/-- slices.Collect over the iterator -/
theorem collect_sh (B p m n₀ : Nat) (v u : Nat → Nat) (arr : List Sd) (hv8 : ∀ c, c < 8 → v c ≤ 1000) (hu8 : ∀ c, c < 8 → u c ≤ 1000)
    (w : World) (hp : p < n₀) (hm : m < n₀) (hn₀ : n₀ ≤ w.heap.size) (hB : B + 3 ≤ w.heap.size) (hb : Btw w B p m v u arr) :
    Calls Try.prog 45 #[.func (.func 64) #[] #[.pointer (some ⟨B + 1, 0, none⟩), .pointer (some ⟨B + 2, 0, none⟩), .pointer (some ⟨B, 0, none⟩)]] w fun e W' => ∃ x, e = .returned x ∧ W'.ownsRow w.heap.size 38 7 x (betw arr v u 8).length (flatE encSd (betw arr v u 8)) ∧ Below w.heap.size w W' :=
  callsIn_wide.1 (collect_in Fence.wide 9 64 _ trivial trivial trivial rfl (by omega) (enters_of Try.func64 (by kernel_rfl) rfl) n₀ B 8000 _ (by omega) w hn₀ hB
    (btw_stops Fence.wide 7 trivial rfl (by omega) B p m n₀ v u arr hv8 hu8 w hp hm hn₀ hB hb))

set_option maxRecDepth 100000 in
theorem between_sh (p : Nat) (v u : Nat → Nat) (w : World) :
    Calls Try.prog 46 #[.pointer (some ⟨p, 0, none⟩), valV v, valV u] w fun e w' => e = .returned (.func (.func 64) #[] #[.pointer (some ⟨w.heap.size + 1, 0, none⟩), .pointer (some ⟨w.heap.size + 2, 0, none⟩), .pointer (some ⟨w.heap.size, 0, none⟩)]) ∧
      w' = ((w.alloc (.cells #[.pointer (some ⟨p, 0, none⟩)] 30)).alloc (.cells (arrV v) 62)).alloc (.cells (arrV u) 62) := by
  dsimp only [valV]
  go_enter Try.func46, Try.ntmps46
  go_wp2_with fail
  go_ret
  exact ⟨rfl, rfl⟩
theorem Btw.made {w W : World} {p m : Nat} {v u : Nat → Nat} {arr : List Sd} (hW : W = ((w.alloc (.cells #[.pointer (some ⟨p, 0, none⟩)] 30)).alloc (.cells (arrV v) 62)).alloc (.cells (arrV u) 62)) (hp : p < w.heap.size) (c1 : w.cell? ⟨p, 1, none⟩ = some (.map (some m))) (hm : There w m arr.length arr) :
    Btw W w.heap.size p m v u arr ∧ Below w.heap.size w W ∧ W.heap.size = w.heap.size + 3 := by
  subst hW
  obtain ⟨w1, h1⟩ : ∃ x, w.alloc (.cells #[.pointer (some ⟨p, 0, none⟩)] 30) = x := ⟨_, rfl⟩
  have e1 := heap_alloc_new w (.cells #[.pointer (some ⟨p, 0, none⟩)] 30)
  have s1 := size_alloc' w (.cells #[.pointer (some ⟨p, 0, none⟩)] 30)
  have b1 := (Below.refl w.heap.size w).alloc (Nat.le_refl _) (.cells #[.pointer (some ⟨p, 0, none⟩)] 30)
  rw [h1] at e1 s1 b1 ⊢
  obtain ⟨w2, h2⟩ : ∃ x, w1.alloc (.cells (arrV v) 62) = x := ⟨_, rfl⟩
  have e2 := heap_alloc_new w1 (.cells (arrV v) 62)
  have s2 := size_alloc' w1 (.cells (arrV v) 62)
  have b2 := (Below.refl w1.heap.size w1).alloc (Nat.le_refl _) (.cells (arrV v) 62)
  rw [h2] at e2 s2 b2 ⊢
  obtain ⟨w3, h3⟩ : ∃ x, w2.alloc (.cells (arrV u) 62) = x := ⟨_, rfl⟩
  have e3 := heap_alloc_new w2 (.cells (arrV u) 62)
  have s3 := size_alloc' w2 (.cells (arrV u) 62)
  have b3 := (Below.refl w2.heap.size w2).alloc (Nat.le_refl _) (.cells (arrV u) 62)
  rw [h3] at e3 s3 b3 ⊢
  have hb : Below w.heap.size w w3 := b1.trans ((b2.trans (b3.mono (by omega))).mono (by omega))
  rw [show w2.heap.size = w.heap.size + 2 by omega] at e3
  rw [show w1.heap.size = w.heap.size + 1 by omega] at e2
  refine ⟨⟨?_, ?_, e3, (hb.cell (p := ⟨p, 1, none⟩) hp).trans c1, hm.below hb⟩, hb, by omega⟩
  · exact (b3.block _ (by omega)).trans ((b2.block _ (by omega)).trans e1)
  · exact (b3.block _ (by omega)).trans e2
end Go.Proofs.Ytngigogaiheckaa
