/- grid.Shore. -/
import Derived.Test.YtnbdnnbeiohmgaaPtParts
namespace Go.Proofs.Ytnbdnnbeiohmgaa
open Go.RowKit Go.Maps Go.Shelf Go.Lib
attribute [local go_sem] Oper.semAt_some

/-- is a cell no land, and shares a side with land? -/
def shoreB (S : Int → Int → Bool) (x y : Int) : Bool := !S x y && (sidesL (x, y)).any fun d => S d.1 d.2
/-- the cells added for some cells of land -/
def shoreL (S : Int → Int → Bool) (L : List (Int × Int)) : List (Int × Int) := L.flatMap fun c => (sidesL c).filter fun d => !S d.1 d.2
theorem shoreL_snoc (S : Int → Int → Bool) (L : List (Int × Int)) (c : Int × Int) : shoreL S (L ++ [c]) = shoreL S L ++ (sidesL c).filter (fun d => !S d.1 d.2) := by simp [shoreL]
theorem shoreL_len (S : Int → Int → Bool) : ∀ L : List (Int × Int), (shoreL S L).length ≤ 4 * L.length
  | [] => by simp [shoreL]
  | c :: L => by
    have h := shoreL_len S L
    have h2 := List.length_filter_le (fun d : Int × Int => !S d.1 d.2) (sidesL c)
    have h3 : (sidesL c).length = 4 := rfl
    simp only [shoreL, List.flatMap_cons, List.length_append, List.length_cons] at h ⊢
    omega
theorem sides_sym {c d : Int × Int} (h : d ∈ sidesL c) : c ∈ sidesL d := by
  obtain ⟨a, b⟩ := c
  obtain ⟨x, y⟩ := d
  simp only [sidesL, List.mem_cons, Prod.mk.injEq, List.not_mem_nil, or_false] at h ⊢
  omega
theorem mem_shoreL {S : Int → Int → Bool} {L : List (Int × Int)} (hL : ∀ p q, (p, q) ∈ L ↔ S p q = true) (x y : Int) : (x, y) ∈ shoreL S L ↔ shoreB S x y = true := by
  unfold shoreL shoreB
  rw [List.mem_flatMap, Bool.and_eq_true, List.any_eq_true]
  constructor
  · rintro ⟨c, hc, h⟩
    rw [List.mem_filter] at h
    exact ⟨h.2, c, sides_sym h.1, (hL c.1 c.2).1 hc⟩
  · rintro ⟨h1, d, hd, h2⟩
    exact ⟨d, (hL d.1 d.2).2 h2, List.mem_filter.2 ⟨sides_sym hd, h1⟩⟩
/-- is a cell in the grid? -/
def inG (W H : Int) (c : Int × Int) : Bool := decide ((0 ≤ c.1 ∧ c.1 < W) ∧ 0 ≤ c.2 ∧ c.2 < H)
theorem addF_off {W H : Int} {c : Int × Int} (hW : 1 ≤ W) (f : Nat → List S2) (h : inG W H c = false) : addF W H c.2 c.1 (c.1 + 1) f = f := by
  refine addF_no ?_
  unfold inG at h
  rw [decide_eq_false_iff_not] at h
  unfold addOK inB
  rw [Bool.and_eq_false_iff]
  by_cases h2 : 0 ≤ c.2 ∧ c.2 < H
  · right
    rw [decide_eq_false_iff_not]
    intro h3
    exact h ⟨by omega, h2⟩
  · left
    rw [Bool.and_eq_false_iff]
    by_cases h3 : 0 ≤ c.2
    · right; rw [decide_eq_false_iff_not]; omega
    · left; rw [decide_eq_false_iff_not]; omega
theorem cellF_filter {W H : Int} (hW : 1 ≤ W) (l : List (Int × Int)) : cellF W H l = cellF W H (l.filter (inG W H)) := by
  have key : ∀ (l : List (Int × Int)) (f : Nat → List S2), l.foldl (fun f c => addF W H c.2 c.1 (c.1 + 1) f) f = (l.filter (inG W H)).foldl (fun f c => addF W H c.2 c.1 (c.1 + 1) f) f := by
    intro l
    induction l with
    | nil => intro f; rfl
    | cons c l ih =>
      intro f
      cases hc : inG W H c with
      | false =>
        rw [List.foldl_cons, List.filter_cons_of_neg (by rw [hc]; simp), addF_off hW f hc]
        exact ih f
      | true =>
        rw [List.foldl_cons, List.filter_cons_of_pos hc, List.foldl_cons]
        exact ih _
  exact key l _
theorem refR_congr2 {P Q : Int → Int → Bool} {W H : Nat} (h : ∀ x y : Int, 0 ≤ x → x < W → 0 ≤ y → y < H → P x y = Q x y) : refR P W H = refR Q W H := by
  unfold refR
  refine rowsR_congr fun y hy => ?_
  have key : ∀ n, n ≤ W → runRow (fun x => P x y) n = runRow (fun x => Q x y) n := by
    intro n
    induction n with
    | zero => intro _; rfl
    | succ n ih =>
      intro hn
      have e := h n y (by omega) (by omega) (by omega) (by omega)
      cases hq : Q n y with
      | true => simp [runRow, e.trans hq, hq, ih (by omega)]
      | false => simp [runRow, e.trans hq, hq, ih (by omega)]
  exact key W (Nat.le_refl _)
theorem cells_eq2 {W H : Int} {l : List (Int × Int)} {R : List R3} {P : Int → Int → Bool} (hW : 1 ≤ W ∧ W ≤ 256) (hH : 1 ≤ H ∧ H ≤ 256) (hP : ∀ x y, (x, y) ∈ l ↔ P x y = true) (h : RegOf (cellF W H l) R) : R = refR P W.toNat H.toNat := by
  rw [cellF_filter hW.1] at h
  rw [cells_eq hW hH (fun c hc => by
    have := (List.mem_filter.1 hc).2
    unfold inG at this
    simpa using this) h]
  refine refR_congr2 fun x y h1 h2 h3 h4 => ?_
  rw [Bool.eq_iff_iff, decide_eq_true_eq, List.mem_filter, hP]
  unfold inG
  rw [decide_eq_true_eq]
  constructor
  · exact fun h => h.1
  · exact fun h => ⟨h, by omega⟩

theorem grownWeak {w w' : World} {row : Option Nat} (h : w.grownBy w' none) : w.grownBy w' row := ⟨h.os, h.tape, h.output, h.size, fun k hk _ => h.block k hk (by simp)⟩
/-- the state of the range over the land -/
structure ShI (w wr : World) (B M T Rr D N : Nat) (W H S : Int) (vL : Value) (Dm : DataW Unit) (left : Lit → Bool) (cnt : Nat) (vs : Nat → Value) (l : List (Int × Int)) : Prop where
  rg : wr.ranges Try.prog 39 (plainElem Try.prog 4) M Rr N Dm left cnt
  tab : Tab wr T vs (cellF W H l)
  nob : ∀ i, i < 256 → (vs i).ownBlock ≠ some Rr
  grid : wr.heap[B]? = some (.cells #[.int .i64 W, .int .i64 H, .int .i64 S, vL] 24 (0, 0))
  box : Boxed wr (M + 1) 129 (.map (some M))
  df : wr.heap[D]? = some (.deferred (some []))
  bw : Below B w wr
  ord : B < M ∧ M + 1 < T ∧ D < T ∧ T < Rr
section
variable {w wr w' : World} {B M T Rr D N cnt : Nat} {W H S : Int} {vL : Value} {Dm : DataW Unit} {left : Lit → Bool} {vs vs' : Nat → Value} {l l' : List (Int × Int)}
theorem rangesOf (h : wr.ranges Try.prog 39 (plainElem Try.prog 4) M Rr N Dm left cnt) (h1 : w'.heap[M]? = wr.heap[M]?) (h2 : w'.heap[Rr]? = wr.heap[Rr]?) : w'.ranges Try.prog 39 (plainElem Try.prog 4) M Rr N Dm left cnt := by
  obtain ⟨es, clock, since, seen, c0, hb, F, hs, hD, hr, rest⟩ := h
  exact ⟨es, clock, since, seen, c0, h1.trans hb, F, hs, hD, h2.trans hr, rest⟩
theorem ShI.below (h : ShI w wr B M T Rr D N W H S vL Dm left cnt vs l) (hb : Below wr.heap.size wr w') : ShI w w' B M T Rr D N W H S vL Dm left cnt vs l := by
  have hT := h.tab.lt
  have ho := h.ord
  exact ⟨rangesOf h.rg (hb.block M (by omega)) (hb.block Rr h.rg.lt), h.tab.below hb, h.nob, (hb.block B (by omega)).trans h.grid, (hb.block (M + 1) (by omega)).trans h.box, (hb.block D (by omega)).trans h.df, h.bw.trans (hb.mono (by have := h.bw.size; omega)), h.ord⟩
theorem ShI.add (h : ShI w wr B M T Rr D N W H S vL Dm left cnt vs l) (ht : Tab w' T vs' (cellF W H l')) (hu : Untouched wr w' T vs vs') (hb : Below T wr w') : ShI w w' B M T Rr D N W H S vL Dm left cnt vs' l' := by
  have hT := h.tab.lt
  have ho := h.ord
  have hr := hu Rr h.rg.lt (by omega) h.nob
  exact ⟨rangesOf h.rg (hb.block M (by omega)) hr.1, ht, hr.2, (hb.block B (by omega)).trans h.grid, (hb.block (M + 1) (by omega)).trans h.box, (hb.block D (by omega)).trans h.df, h.bw.trans (hb.mono (by omega)), h.ord⟩
theorem ShI.step {left' : Lit → Bool} {cnt' : Nat} (h : ShI w wr B M T Rr D N W H S vL Dm left cnt vs l) (hg : wr.grownBy w' (some Rr)) (hr : w'.ranges Try.prog 39 (plainElem Try.prog 4) M Rr N Dm left' cnt') : ShI w w' B M T Rr D N W H S vL Dm left' cnt' vs l := by
  have hT := h.tab.lt
  have ho := h.ord
  have hk : ∀ j, j < wr.heap.size → j ≠ Rr → w'.heap[j]? = wr.heap[j]? := fun j hj hne => hg.block j hj (fun e => hne (Option.some.inj e))
  refine ⟨hr, ⟨Nat.lt_of_lt_of_le h.tab.lt hg.size, fun i hi => ?_, fun i hi => ?_, fun i hi => ?_, h.tab.apart⟩, h.nob, (hk B (by omega) (by omega)).trans h.grid, (hk (M + 1) (by omega) (by omega)).trans h.box, (hk D (by omega) (by omega)).trans h.df, h.bw.grown hg (by omega) (fun r e => by cases e; omega), h.ord⟩
  · exact (World.cell?_of_block (a := ⟨T, i, none⟩) (hk T hT (by omega))).trans (h.tab.cell i hi)
  · exact (World.frozen?_of_block (a := ⟨T, i, none⟩) (hk T hT (by omega))).trans (h.tab.fz i hi)
  · refine (h.tab.own i hi).kept hg ?_
    cases hv : (vs i).ownBlock with
    | none => exact .inl rfl
    | some g => exact .inr (fun e => h.nob i hi (by rw [hv]; exact e))
theorem ShI.cells (h : ShI w wr B M T Rr D N W H S vL Dm left cnt vs l) : wr.cell? ⟨B, 0, none⟩ = some (.int .i64 W) ∧ wr.cell? ⟨B, 1, none⟩ = some (.int .i64 H) ∧ wr.cell? ⟨B, 2, none⟩ = some (.int .i64 S) ∧ wr.cell? ⟨B, 3, none⟩ = some vL ∧ wr.cell? ⟨M + 1, 0, none⟩ = some (.map (some M)) := by
  have hg := h.grid
  exact ⟨by simp [World.cell?, hg], by simp [World.cell?, hg], by simp [World.cell?, hg], by simp [World.cell?, hg], h.box.cell⟩
end

set_option maxRecDepth 100000 in
set_option maxHeartbeats 8000000 in
theorem shore_gr (W H S : Int) (vL : Value) (ld : List R3) (w : World) (hL : Runs w vL ld) (hok : checkG W H S ld = true) (hn : (cellsL ld).length ≤ 8192) (hWH : W * H ≤ 8192) :
    Calls Try.prog 38 #[.agg #[.int .i64 W, .int .i64 H, .int .i64 S, vL]] w fun e w' => (∃ v, e = .returned (.tuple #[v, .int .i64 0]) ∧ Runs w' v (refR (shoreB (inC (cellsL ld))) W.toNat H.toNat)) ∧ Below w.heap.size w w' := by
  obtain ⟨A, cap, rfl, -⟩ := id hL
  have HLd := Lib.hid hL
  have HOK := Lib.hid hok
  have hmm := @run_makeMap Try.prog
  clear hL hok
  refine (callsIn_wide (n := 9)).1 (callsIn_of_wp_marks Try.func38 rfl trivial ?_ rfl)
  simp only [Try.ntmps38, List.size_toArray, List.length_cons, List.length_nil, Nat.reduceAdd, Nat.reduceSub, Array.replicate_succ, Array.replicate_zero, List.push_toArray, List.append_toArray, List.nil_append, List.cons_append]
  refine wpIn_wide.2 ?_
  obtain ⟨B, hB⟩ : ∃ B, w.heap.size = B := ⟨_, rfl⟩
  go_upto_region 1 with fail
  obtain ⟨w0, hw0⟩ : ∃ W', w.alloc (.cells #[.int .i64 W, .int .i64 H, .int .i64 S, .slice A ld.length cap] 24) = W' := ⟨_, rfl⟩
  have b0 : Below w.heap.size w w0 := by rw [← hw0]; exact (Below.refl _ _).alloc (Nat.le_refl _) _
  have s0 : w0.heap.size = B + 1 := by rw [← hw0, ← hB]; simp
  have eG : w0.heap[B]? = some (.cells #[.int .i64 W, .int .i64 H, .int .i64 S, .slice A ld.length cap] 24 (0, 0)) := by
    rw [← hw0, ← hB]
    exact heap_alloc_new w _
  have g0 : w0.cell? ⟨B, 0, none⟩ = some (.int .i64 W) := by simp [World.cell?, eG]
  have g1 : w0.cell? ⟨B, 1, none⟩ = some (.int .i64 H) := by simp [World.cell?, eG]
  have g2 : w0.cell? ⟨B, 2, none⟩ = some (.int .i64 S) := by simp [World.cell?, eG]
  have g3 : w0.cell? ⟨B, 3, none⟩ = some (.slice A ld.length cap) := by simp [World.cell?, eG]
  have hchk := checkGrid_gr W H S (.slice A ld.length cap) ld w0 (HLd.out.below b0)
  rw [HOK.out, argE_true] at hchk
  have HCHK := Lib.hid hchk
  rw [hB] at b0
  rw [hw0]
  have HBw := Lib.hid hB
  clear hchk hw0 hB
  go_wp2_with fail
  refine HCHK.out.mono ?_
  rintro e w2 ⟨rfl, hb2⟩
  have bw2 : Below B w w2 := b0.trans (hb2.mono (by omega))
  have eG2 := (hb2.block B (by omega)).trans eG
  have hM0 : B + 1 ≤ w2.heap.size := by have := hb2.size; omega
  clear hb2 eG g0 g1 g2 g3 b0 HCHK
  go_upto_region 5 with fail
  obtain ⟨M, hM⟩ : ∃ M, w2.heap.size = M := ⟨_, rfl⟩
  obtain ⟨w4, hw4⟩ : ∃ W', (w2.alloc (.map #[] 0)).alloc (.cells #[.map (some w2.heap.size)] 129) = W' := ⟨_, rfl⟩
  have hS4 : SetN w4 M 0 0 fun _ _ => false := by
    rw [← hw4, ← hM]
    exact (SetN.made w2).kept (World.grownBy_alloc _ _ none) (by simp)
  have eL : Boxed w4 (M + 1) 129 (.map (some M)) := by
    rw [← hw4, ← hM]
    have := Boxed.new (w2.alloc (.map #[] 0)) 129 (.map (some w2.heap.size))
    simpa using this
  have b4 : Below w2.heap.size w2 w4 := by rw [← hw4]; exact ((Below.refl _ _).alloc (Nat.le_refl _) _).alloc (by simp) _
  have s4 : w4.heap.size = M + 1 + 1 := by rw [← hw4, ← hM]; simp
  rw [hw4]
  rw [hM] at b4 hM0 ⊢
  have bw4 : Below B w w4 := bw2.trans (b4.mono (by omega))
  have eG4 := (b4.block B (by omega)).trans eG2
  clear hw4 hM bw2 b4 eG2 s0
  obtain ⟨hW, hH, hSz, hrB⟩ := checkG_iff HOK.out
  simp only [rightB, Bool.and_eq_true, decide_eq_true_eq] at hrB
  have hrows := right_rows hrB.1
  have hP : ∀ c ∈ cellsL ld, PtP W H c := by
    intro c hc
    obtain ⟨z, hz, hc⟩ := List.mem_flatMap.1 hc
    obtain ⟨j, hj, rfl⟩ := List.mem_map.1 hc
    have h1 := hrows z hz
    have hj := List.mem_range.1 hj
    dsimp only [PtP]
    omega
  have hbd : ∀ z ∈ ld, 0 ≤ z.2.1 ∧ z.2.2 ≤ 256 := fun z hz => by have := hrows z hz; omega
  have hrl := hrB.2
  have hAr : ∀ k z, ld[k]? = some z → ∃ b off, A = some ⟨b, off, none⟩ ∧ b < w.heap.size ∧ w.cell? ⟨b, off + k * 3, none⟩ = some (.int .i64 z.1) ∧ w.cell? ⟨b, off + k * 3 + 1, none⟩ = some (.int .i64 z.2.1) ∧ w.cell? ⟨b, off + k * 3 + 2, none⟩ = some (.int .i64 z.2.2) := fun k z hz => by
    obtain ⟨A', c', e, -, -, h3⟩ := HLd.out
    cases e
    obtain ⟨b, off, e, hb, hcs⟩ := h3 (by have := (List.getElem?_eq_some_iff.1 hz).1; omega)
    exact ⟨b, off, e, hb, hcs k 0 z _ hz rfl, hcs k 1 z _ hz rfl, hcs k 2 z _ hz rfl⟩
  rw [HBw.out] at hAr
  clear hrB hrows
  have g3 : w4.cell? ⟨B, 3, none⟩ = some (.slice A ld.length cap) := by simp [World.cell?, eG4]
  go_wp2_with fail
  refine (cells_call A ld.length cap w4).mono ?_
  rintro e w5 ⟨rfl, hw5⟩
  have hBr : w5.cell? ⟨M + 1 + 1, 0, none⟩ = some (.slice A ld.length cap) := by rw [hw5, ← s4]; simp [go_sem]
  have b5 : Below w4.heap.size w4 w5 := by rw [hw5]; exact (Below.refl _ _).alloc (Nat.le_refl _) _
  have s5 : w5.heap.size = M + 1 + 1 + 1 := by rw [hw5]; simp [s4]
  clear hw5
  rw [s4] at b5 ⊢
  have eG5 := (b5.block B (by omega)).trans eG4
  have eL : Boxed w5 (M + 1) 129 (.map (some M)) := (b5.block (M + 1) (by omega)).trans eL
  have hS5 := hS4.of_block (b5.block M (by omega))
  have bw5 : Below B w w5 := bw4.trans (b5.mono (by omega))
  clear b5 bw4 hS4 s4 eG4
  have hseq := cellsP_stops (PtP W H) Fence.wide 8 trivial rfl (by omega) (M + 1 + 1) B ld.length cap A ld hP rfl hbd (by omega) w5 (by omega) (by omega) hBr
    (fun k z hz => by
      obtain ⟨b, off, e, hb, h1, h2, h3⟩ := hAr k z hz
      exact ⟨b, off, e, hb, (bw5.cell (p := ⟨b, off + k * 3, none⟩) hb).trans h1, (bw5.cell (p := ⟨b, off + k * 3 + 1, none⟩) hb).trans h2, (bw5.cell (p := ⟨b, off + k * 3 + 2, none⟩) hb).trans h3⟩)
  go_wp2_with fail
  refine (wpIn_wide (n := 9)).1 (wpIn_rangeFunc_box (d := 6) rfl (by omega) (gf := 109) (lb := #[.pointer (some ⟨M + 1 + 1, 0, none⟩)]) rfl trivial (enters_of Try.func109 (by kernel_rfl) rfl) hseq KpR.t (KpR.b (by omega)) (Below.refl _ _)
    (fun (pre : List { c : Int × Int // PtP W H c }) W' => SetN W' M pre.length pre.length (inC (valsC pre)) ∧ Xt (fun b => b = M) w5 W')
    (fun _ _ _ => False)
    (OwnFrom.and (I := fun (pre : List { c : Int × Int // PtP W H c }) W' => SetN W' M pre.length pre.length (inC (valsC pre))) (fun pre X Y row hs hg hr => hs.kept hg (fun e => by have := (hr M e.symm).1; omega)) xtOwn)
    (fun _ _ _ _ _ hs _ _ => hs)
    ⟨hS5.ext (fun p q => by simp [inC, valsC]), Xt.refl _ _⟩
    (fun c => #[.int .i64 c.1.1, .int .i64 c.1.2]) 39
    ?assign (fun pre W' h => h.2.size) ?body ?done ?stop)
  case assign =>
    rintro l pre ⟨⟨x, y⟩, hx⟩ W' K ⟨hs, hE⟩ hK
    have hba := (Below.refl W'.heap.size W').alloc (Nat.le_refl _) (.cells #[.int .i64 x, .int .i64 y] 39)
    have hK' := hK _ ((KeepsOthers.alloc _ _).from _) (KpR.alloc (by have := hE.size; omega) _) ⟨hs.kept (World.grownBy_alloc W' _ none) (by simp), hE.thenBelow hba hE.size⟩ rfl
    simp only [List.setIfInBounds_toArray, List.set_cons_succ, List.set_cons_zero] at hK' ⊢
    have HK := Lib.hid hK'
    clear hK hK'
    gi_wp2
    exact HK.out
  case body =>
    rintro l pre ⟨⟨x, y⟩, hx⟩ Bx W' hl ⟨lr, hlr⟩ ⟨hs, hE⟩ hBx hbx hlt
    simp only [List.setIfInBounds_toArray, List.set_cons_succ, List.set_cons_zero]
    have x0 : W'.cell? ⟨Bx, 0, none⟩ = some (.int .i64 x) := by simp [World.cell?, hbx]
    have x1 : W'.cell? ⟨Bx, 1, none⟩ = some (.int .i64 y) := by simp [World.cell?, hbx]
    have cL : W'.cell? ⟨M + 1, 0, none⟩ = some (.map (some M)) := (hE.cell (a := ⟨M + 1, 0, none⟩) (by show M + 1 < _; omega) (by simp)).trans (by simp [World.cell?, show w5.heap[M + 1]? = _ from eL])
    have hx' := hx
    dsimp only [PtP] at hx'
    have hlen : pre.length < maxLen := by unfold maxLen; omega
    gi_wp2_with (gi_at_mapUpdate; go_loud (refine wpListIn_update_setN _ rfl _ _ _ _ rfl mapCB M pre.length _ rfl hs hlen x y rfl rfl (isI64_of (by omega)) (isI64_of (by omega)) ?_); intro w' hm' hg')
    refine ⟨KeepsFrom.of_grownBy hg' (fun j e => by have := Option.some.inj e; omega), ⟨(Below.refl B W').grown hg' (by have := hE.size; omega) (fun j e => by have := Option.some.inj e; omega), ?_⟩, ?_, hE.grown hg' (fun r e => .inl (Option.some.inj e).symm)⟩
    · intro k c f h
      refine (hg'.block k (Array.getElem?_eq_some_iff.1 h).1 (fun e => ?_)).trans h
      obtain rfl := Option.some.inj e
      exact hs.notRun h
    · rw [List.length_append, List.length_singleton, valsC_snoc]
      exact hm'.ext fun p q => by rw [← inC_snoc]
  case stop =>
    rintro D c pre W' _ _ h _
    exact h.elim
  case done =>
    rintro D ys W1 hD hys ⟨hs, hE⟩ hK
    rw [← valsC_len ys, show valsC ys = cellsL ld from hys] at hs
    have eL := (hE.block (M + 1) (by omega) (by simp)).trans eL
    have eG := (hE.block B (by omega) (by omega)).trans eG5
    have bw1 : Below B w W1 := hE.below bw5 (by omega) (fun b hb => by omega)
    have sW1 := hE.size
    have hDl : D < W1.heap.size := (Array.getElem?_eq_some_iff.1 hK).1
    clear hseq hS5 hE hys eG5 bw5 hBr
    dsimp only
    go_upto_region 9 with fail
    obtain ⟨T, hT⟩ : ∃ T, W1.heap.size = T := ⟨_, rfl⟩
    have T0 := Tab.new W1 T hT
    obtain ⟨w6, hw6⟩ : ∃ w6, W1.alloc (.cells Try.zeroCells100 100) = w6 := ⟨_, rfl⟩
    have b6 : Below W1.heap.size W1 w6 := by rw [← hw6]; exact (Below.refl _ _).alloc (Nat.le_refl _) _
    have s6 : w6.heap.size = T + 1 := by rw [← hw6, ← hT]; simp
    rw [hw6] at T0 ⊢
    rw [hT] at b6 hDl sW1 ⊢
    clear hw6
    obtain ⟨Sf, hSf⟩ : ∃ Sf, inC (cellsL ld) = Sf := ⟨_, rfl⟩
    have hs6 := hs.of_block (b6.block M (by omega))
    rw [hSf] at hs6
    obtain ⟨N, hN⟩ : ∃ N, (cellsL ld).length = N := ⟨_, rfl⟩
    rw [hN] at hs6
    obtain ⟨Dm, hown, hSD, hsz⟩ := hs6
    have HSD := Lib.hid hSD
    have eL6 : Boxed w6 (M + 1) 129 (.map (some M)) := (b6.block (M + 1) (by omega)).trans eL
    have eG6 := (b6.block B (by omega)).trans eG
    have hK6 := (b6.block D hDl).trans hK
    have bw6 := bw1.trans (b6.mono (by have := bw1.size; omega))
    have cL6 : w6.cell? ⟨M + 1, 0, none⟩ = some (.map (some M)) := eL6.cell
    have hMT : M + 1 < T := by omega
    have HSf := Lib.hid hSf
    have HNl := Lib.hid hN
    have hB5 : B ≤ w5.heap.size := by omega
    clear hs eL eG hK bw1 hSD hT b6 hSf hN s5 sW1
    go_wp2_with (at_range; go_loud (refine wpList_range_own _ rfl _ _ rfl 39 4 lawC mapCB (plainElem Try.prog 4) M N Dm rfl hown ?_); intro w7 hrg hg7 hs7)
    go_frame
    have T7 := T0.kept (M := M) (grownWeak hg7) (by omega)
    have hI0 : ShI w w7 B M T (T + 1) D N W H S (.slice A ld.length cap) Dm (Maps.has Dm) (Maps.size Dm) (fun _ => .slice none 0 0) [] := by
      rw [s6] at hrg
      exact ⟨hrg, T7, fun i _ => by simp [Value.ownBlock], (hg7.block B (by omega) (by simp)).trans eG6, (hg7.block (M + 1) (by omega) (by simp)).trans eL6, (hg7.block D (by omega) (by simp)).trans hK6, bw6.grown hg7 (by have := bw6.size; omega) (fun r e => by cases e), by omega⟩
    rw [s6]
    have HI0 := Lib.hid hI0
    clear hI0 T7 T0 eG6 eL6 hK6 bw6 cL6 hrg hg7 hs7 s6 hown
    go_loopw [8] (fun v wr => v = v ∧ ∃ (L : List (Int × Int)) (left : Lit → Bool) (cnt : Nat) (vs : Nat → Value), ShI w wr B M T (T + 1) D N W H S (.slice A ld.length cap) Dm left cnt vs (shoreL Sf L) ∧ LeftT Dm L left ∧ (∀ c, c ∈ L → (isI64 c.1 ∧ isI64 c.2) ∧ Maps.has Dm (cellK c.1 c.2) = true) ∧ L.length + cnt ≤ N) (fun _ wr => wr.rangeLeft M (T + 1))
    case atStart => exact ⟨rfl, [], _, _, _, HI0.out, LeftT.start Dm, by simp, by simpa using hsz⟩
    case round =>
      obtain ⟨-, L, left, cnt, vs, hI, hleft, hmem, hlen⟩ := hrel
      clear HI0
      go_wp2_with (at_next; refine wpList_next_cells _ rfl _ rfl M (T + 1) N Dm left cnt rfl hI.rg ?_ ?_)
      · intro hc0 hl0
        have hLm : ∀ p q, (p, q) ∈ L ↔ Sf p q = true := fun p q => by
          constructor
          · intro hm
            obtain ⟨⟨i1, i2⟩, h⟩ := hmem _ hm
            rw [(HSD.out p q i1 i2).2] at h
            exact h
          · intro h
            have hp := h
            rw [← HSf.out] at hp
            have hp := hP (p, q) (by simpa [inC] using hp)
            dsimp only [PtP] at hp
            exact hleft.done HSD.out hl0 (isI64_of (by omega)) (isI64_of (by omega)) h
        have hcl := fun i => cellF_len W H (shoreL Sf L) i
        have hsl := shoreL_len Sf L
        have hN8 : N ≤ 8192 := by rw [← HNl.out]; exact hn
        have hro := region_own T vs _ wr hI.tab (fun i _ => by have := hcl i; omega) (fun i _ s hs => by have := cellF_mem hs; omega)
        have HRo := Lib.hid hro
        have HI := Lib.hid hI
        have HLm := Lib.hid hLm
        have hTl := hI.tab.lt
        have hDT := hI.ord
        clear hro hI hleft hl0 hmem hcl hsl hLm
        go_wp2_with fail
        refine HRo.out.mono ?_
        rintro e w9 ⟨⟨R, hRR, v', rfl, hrow⟩, hb9⟩
        have hEq : R = refR (shoreB Sf) W.toNat H.toNat := cells_eq2 hW hH (mem_shoreL HLm.out) hRR
        have hRl : R.length ≤ 8192 := by
          rw [hEq]
          have h1 := refR_more (shoreB Sf) W.toNat H.toNat
          have h2 : ((W.toNat * H.toNat : Nat) : Int) ≤ 8192 := by
            rw [Int.natCast_mul, Int.toNat_of_nonneg (by omega), Int.toNat_of_nonneg (by omega)]
            exact hWH
          omega
        have hrow := hrow hRl
        rw [if_pos hRl]
        have hK9 := (hb9.block D (by omega)).trans HI.out.df
        have b9 := HI.out.bw.trans (hb9.mono (by omega))
        have HE := Lib.hid hEq
        have HRw := Lib.hid hrow
        clear hEq hRl hrow hRR HRo hb9
        go_wp2_with fail
        refine ⟨by simp, .inl ⟨_, _, rfl, run_takeDeferred hK9, ?_⟩⟩
        refine ⟨.tuple #[v', .int .i64 0], by simp [results, Try.results38, go_sem], ⟨v', rfl, ?_⟩, ?_⟩
        · rw [HSf.out, ← HE.out]
          exact rowLst (enc := encR) (k := 3) (fun _ => rfl) (ownsRow_putObj HRw.out (.deferred none) hK9 rfl)
        · rw [HBw.out]
          exact b9.trans (belowK_b (w := w5) hB5 w9 D _ _ hD hK9 rfl rfl)
      · intro x y u w8 cnt1 hx hy hlx hrg1 hlt1 hg1 hs1 hen
        have hI8 := hI.step hg1 hrg1
        have hleft1 := hleft.step hx hy
        have hhas : Maps.has Dm (cellK x y) = true := by
          have h := hleft x y hx hy
          rw [hlx] at h
          have h := h.symm
          rw [Bool.and_eq_true] at h
          exact h.1
        have hxy : (0 ≤ x ∧ x < W) ∧ 0 ≤ y ∧ y < H := by
          have h := hhas
          rw [(HSD.out x y hx hy).2, ← HSf.out] at h
          exact hP (x, y) (by simpa [inC] using h)
        have HM0 := Lib.hid hI.rg.left_eq
        have HL1 := Lib.hid hleft1
        have HMem := Lib.hid hmem
        have HI8 := Lib.hid hI8
        have hN8 : N ≤ 8192 := by rw [← HNl.out]; exact hn
        clear hI hI8 hleft hleft1 hmem hrg1 hg1 hs1
        go_upto_region 12 with fail
        obtain ⟨w9, hw9⟩ : ∃ w', w8.alloc (.cells #[.int .i64 x, .int .i64 y] 39) = w' := ⟨_, rfl⟩
        have b9 : Below w8.heap.size w8 w9 := by rw [← hw9]; exact (Below.refl _ _).alloc (Nat.le_refl _) _
        have e9 : w9.heap[w8.heap.size]? = some (.cells #[.int .i64 x, .int .i64 y] 39 (0, 0)) := by rw [← hw9]; exact heap_alloc_new w8 _
        have x0 : w9.cell? ⟨w8.heap.size, 0, none⟩ = some (.int .i64 x) := by simp [World.cell?, e9]
        have x1 : w9.cell? ⟨w8.heap.size, 1, none⟩ = some (.int .i64 y) := by simp [World.cell?, e9]
        rw [hw9]
        have hI9 := HI8.out.below b9
        have HI9 := Lib.hid hI9
        clear hw9 b9 e9 hI9 HI8 hen
        go_wp2_with fail
        refine (sides_gr x y w9 (by omega) (by omega)).mono ?_
        rintro e w10 ⟨rfl, b10⟩
        have hI10 := HI9.out.below b10
        have HI10 := Lib.hid hI10
        have HIDX := Lib.hid fun k (d : Int × Int) (h : (sidesL (x, y))[k]? = some d) W => side_at x y h W
        clear hI10 HI9 b10 x0 x1
        go_wp2_with fail
        obtain ⟨left1, hleft1⟩ : ∃ l1, (fun z : Lit => left z && !z.sameKey (cellK x y)) = l1 := ⟨_, rfl⟩
        rw [hleft1] at HI10 HL1
        clear hleft1
        go_loopw [33] (fun v wr' => ∃ j : Nat, j ≤ 4 ∧ v = .int .i64 j ∧ ∃ vs', ShI w wr' B M T (T + 1) D N W H S (.slice A ld.length cap) Dm left1 cnt1 vs' (shoreL Sf L ++ ((sidesL (x, y)).take j).filter (fun d => !Sf d.1 d.2))) (fun v _ => 4 - (intOf v).toNat)
        case atStart =>
          refine ⟨0, by omega, rfl, vs, ?_⟩
          simpa using HI10.out
        case round =>
          obtain ⟨j, hj, rfl, vs', hIj⟩ := hrel
          by_cases hlt : j < 4
          · obtain ⟨d, hd⟩ : ∃ d, (sidesL (x, y))[j]? = some d := ⟨_, List.getElem?_eq_getElem (by show j < 4; exact hlt)⟩
            have hix := HIDX.out j d hd
            obtain ⟨dx, dy⟩ := d
            have htk : ((sidesL (x, y)).take (j + 1)).filter (fun d => !Sf d.1 d.2) = ((sidesL (x, y)).take j).filter (fun d => !Sf d.1 d.2) ++ (if Sf dx dy = true then [] else [(dx, dy)]) := by
              rw [List.take_add_one, hd, List.filter_append]
              cases h : Sf dx dy <;> simp [h]
            have hll := List.length_filter_le (fun d : Int × Int => !Sf d.1 d.2) ((sidesL (x, y)).take j)
            have hll2 := List.length_take_le j (sidesL (x, y))
            have hsl := shoreL_len Sf L
            have hdd : (-1 ≤ dx ∧ dx ≤ 257) ∧ -1 ≤ dy ∧ dy ≤ 257 := by
              have h4 := List.mem_of_getElem? hd
              simp only [sidesL, List.mem_cons, Prod.mk.injEq, List.not_mem_nil, or_false] at h4
              omega
            obtain ⟨wa, hwa⟩ : ∃ W', wr.alloc (.cells #[.int .i64 dx, .int .i64 dy] 39) = W' := ⟨_, rfl⟩
            obtain ⟨Z, hZ⟩ : ∃ Z, wr.heap.size = Z := ⟨_, rfl⟩
            have ba : Below wr.heap.size wr wa := by rw [← hwa]; exact (Below.refl _ _).alloc (Nat.le_refl _) _
            have hIa := hIj.below ba
            have e9 : wa.heap[Z]? = some (.cells #[.int .i64 dx, .int .i64 dy] 39 (0, 0)) := by rw [← hwa, ← hZ]; exact heap_alloc_new wr _
            have x0 : wa.cell? ⟨Z, 0, none⟩ = some (.int .i64 dx) := by simp [World.cell?, e9]
            have x1 : wa.cell? ⟨Z, 1, none⟩ = some (.int .i64 dy) := by simp [World.cell?, e9]
            have hset : SetC wa M N Sf := ⟨Dm, hIa.rg.owns, fun p q hp hq => (HSD.out p q hp hq).1⟩
            obtain ⟨g0, g1, g2, g3, gM⟩ := hIa.cells
            have hadd := add_gr W H S dy dx (dx + 1) (.slice A ld.length cap) T vs' _ wa hW hH hIa.tab (fun i _ => by have := cellF_len W H (shoreL Sf L ++ ((sidesL (x, y)).take j).filter (fun d => !Sf d.1 d.2)) i; rw [List.length_append] at this; omega)
            have hwx : IntKind.i64.wrap (dx + 1) = dx + 1 := wrapK _ (by omega) (by omega)
            have HADD := Lib.hid hadd
            have HIa := Lib.hid hIa
            have HTk := Lib.hid htk
            have HSet := Lib.hid hset
            have HDD := Lib.hid hdd
            have hj0 : (0 : Int) ≤ j := by omega
            have hj1 : (j : Int) < 4 := by omega
            have hwj : IntKind.i64.wrap ((j : Int) + 1) = j + 1 := wrapK _ (by omega) (by omega)
            have hi1 : isI64 dx := isI64_of (by omega)
            have hi2 : isI64 dy := isI64_of (by omega)
            clear hd hll hll2 hsl hdd ba hIj hIa e9 hset hadd htk hwx hwj
            go_upto_region 15 with fail
            clear hwa hZ
            cases hS : Sf dx dy with
            | true =>
              have hlk : (Instr.lookup 129 (.map (some M)) (.agg #[.int .i64 dx, .int .i64 dy]) false).run Try.prog wa = .ok (.bool true) wa := by
                have h := HSet.out.look (t := 129) rfl hi1 hi2
                rwa [hS] at h
              have hrel5 : ∃ j' : Nat, j' ≤ 4 ∧ Value.int .i64 ((j : Int) + 1) = .int .i64 (j' : Int) ∧ ∃ vs', ShI w wa B M T (T + 1) D N W H S (.slice A ld.length cap) Dm left1 cnt1 vs' (shoreL Sf L ++ ((sidesL (x, y)).take j').filter (fun d => !Sf d.1 d.2)) := by
                refine ⟨j + 1, by omega, by simp, vs', ?_⟩
                rw [HTk.out, if_pos hS, List.append_nil]
                exact HIa.out
              have HR := Lib.hid hrel5
              have hwj : IntKind.i64.wrap ((j : Int) + 1) = j + 1 := wrapK _ (by omega) (by omega)
              clear hrel5 hS HADD HIa HTk HSet hix hi1 hi2 HIDX
              go_wp2_with fail
              go_roundw
              case rel => exact HR.out
              case measure => simp [intOf]; omega
            | false =>
              have hlk : (Instr.lookup 129 (.map (some M)) (.agg #[.int .i64 dx, .int .i64 dy]) false).run Try.prog wa = .ok (.bool false) wa := by
                have h := HSet.out.look (t := 129) rfl hi1 hi2
                rwa [hS] at h
              have hwx : IntKind.i64.wrap (dx + 1) = dx + 1 := wrapK _ (by have := HDD.out; omega) (by have := HDD.out; omega)
              have HSx := Lib.hid hS
              clear hS HSet hix hi1 hi2 HIDX
              go_wp2_with fail
              refine HADD.out.mono ?_
              rintro e wb ⟨rfl, ⟨vsb, hTb, hun⟩, hbb⟩
              have hrel5 : ∃ j' : Nat, j' ≤ 4 ∧ Value.int .i64 ((j : Int) + 1) = .int .i64 (j' : Int) ∧ ∃ vs', ShI w wb B M T (T + 1) D N W H S (.slice A ld.length cap) Dm left1 cnt1 vs' (shoreL Sf L ++ ((sidesL (x, y)).take j').filter (fun d => !Sf d.1 d.2)) := by
                refine ⟨j + 1, by omega, by simp, vsb, ?_⟩
                rw [HTk.out, if_neg (by rw [HSx.out]; simp), ← List.append_assoc]
                exact HIa.out.add (by rw [cellF_snoc]; exact hTb) hun hbb
              have HR := Lib.hid hrel5
              have hwj : IntKind.i64.wrap ((j : Int) + 1) = j + 1 := wrapK _ (by omega) (by omega)
              clear hrel5 HADD HIa HTk hTb hun hbb hwx g0 g1 g2 g3 gM x0 x1
              go_wp2_with fail
              go_roundw
              case rel => exact HR.out
              case measure => simp [intOf]; omega
          · obtain rfl : j = 4 := by omega
            have HIj := Lib.hid hIj
            clear hIj
            go_wp2_with fail
            refine ⟨⟨trivial, L ++ [(x, y)], left1, cnt1, vs', ?_, HL1.out, ?_, ?_⟩, ?_⟩
            · rw [shoreL_snoc]
              exact HIj.out
            · intro c hc
              rcases List.mem_append.1 hc with h | h
              · exact HMem.out c h
              · obtain rfl := List.mem_singleton.1 h
                exact ⟨⟨hx, hy⟩, hhas⟩
            · rw [List.length_append, List.length_singleton]
              omega
            · rw [HIj.out.rg.left_eq, HM0.out]
              exact hlt1
end Go.Proofs.Ytnbdnnbeiohmgaa
