/- grid.Parts. -/
import Derived.Test.YtnbdnnbeiohmgaaPtInv
import Derived.Shelf.RegionOpen
import Derived.Sort.CutIn
import Derived.LoopNIn
import Derived.LoopIn
namespace Go.Proofs.Ytnbdnnbeiohmgaa
open Go.RowKit Go.Maps Go.Shelf Go.Lib
attribute [local go_sem] Oper.semAt_some

set_option maxRecDepth 100000 in
set_option maxHeartbeats 8000000 in
theorem parts_gr (W H S : Int) (vL vR : Value) (ld r : List R3) (w : World) (hL : Runs w vL ld) (hR : Runs w vR r) (hok : checkRs W H S ld [r] = true) (hn : (cellsL r).length ≤ 8192) (hWH : W * H ≤ 8192) :
    Calls Try.prog 37 #[.agg #[.int .i64 W, .int .i64 H, .int .i64 S, vL], vR] w fun e w' => ∃ v us, e = .returned (.tuple #[v, .int .i64 0]) ∧ Lst 1 enc1 w' v us ∧ us.length = (partsL (cellsL r)).length ∧
      (∀ (i : Nat) u L, us[i]? = some u → (partsL (cellsL r))[i]? = some L → Runs w' u (refR (inC L) W.toNat H.toNat)) ∧ Below w.heap.size w w' := by
  obtain ⟨A, cap, rfl, -⟩ := id hR
  have HRd := Lib.hid hR
  have HLd := Lib.hid hL
  have HOK := Lib.hid hok
  have hmm := @run_makeMap Try.prog
  clear hR hL hok
  refine (callsIn_wide (n := 9)).1 (callsIn_of_wp_marks Try.func37 rfl trivial ?_ rfl)
  simp only [Try.ntmps37, List.size_toArray, List.length_cons, List.length_nil, Nat.reduceAdd, Nat.reduceSub, Array.replicate_succ, Array.replicate_zero, List.push_toArray, List.append_toArray, List.nil_append, List.cons_append]
  refine wpIn_wide.2 ?_
  obtain ⟨B, hB⟩ : ∃ B, w.heap.size = B := ⟨_, rfl⟩
  go_upto_region 1 with fail
  obtain ⟨w0, hw0⟩ : ∃ W', (((w.alloc (.cells #[.int .i64 W, .int .i64 H, .int .i64 S, vL] 24)).alloc (.cells #[.slice none 0 0] 68)).alloc (.cells #[.int .i64 0] 33)) = W' := ⟨_, rfl⟩
  have b0 : Below w.heap.size w w0 := by rw [← hw0]; exact (((Below.refl _ _).alloc (Nat.le_refl _) _).alloc (by simp) _).alloc (by simp; omega) _
  have s0 : w0.heap.size = B + 3 := by rw [← hw0, ← hB]; simp
  have eG : w0.heap[B]? = some (.cells #[.int .i64 W, .int .i64 H, .int .i64 S, vL] 24 (0, 0)) := by
    rw [← hw0, ← hB]
    exact (Below.heap_alloc _ _ _ (by simp; omega)).trans ((Below.heap_alloc _ _ _ (by simp)).trans (heap_alloc_new w _))
  have e1 : Boxed w0 (B + 1) 68 (.slice none 0 0) := by
    rw [← hw0, ← hB]
    have := (Boxed.new (w.alloc (.cells #[.int .i64 W, .int .i64 H, .int .i64 S, vL] 24)) 68 (.slice none 0 0)).alloc (.cells #[.int .i64 0] 33)
    simpa using this
  have e2 : Boxed w0 (B + 1 + 1) 33 (.int .i64 0) := by
    rw [← hw0, ← hB]
    have := Boxed.new ((w.alloc (.cells #[.int .i64 W, .int .i64 H, .int .i64 S, vL] 24)).alloc (.cells #[.slice none 0 0] 68)) 33 (.int .i64 0)
    simpa using this
  rw [hB] at b0
  rw [hw0]
  clear hw0
  have g0 : w0.cell? ⟨B, 0, none⟩ = some (.int .i64 W) := by simp [World.cell?, eG]
  have g1 : w0.cell? ⟨B, 1, none⟩ = some (.int .i64 H) := by simp [World.cell?, eG]
  have g2 : w0.cell? ⟨B, 2, none⟩ = some (.int .i64 S) := by simp [World.cell?, eG]
  have g3 : w0.cell? ⟨B, 3, none⟩ = some vL := by simp [World.cell?, eG]
  have b1' : Below w.heap.size w (w0.alloc (.cells #[.slice A r.length cap] 22)) := by rw [hB]; exact b0.alloc (by omega) _
  have hchk := checked_gr W H S vL (.slice (some ⟨w0.heap.size, 0, none⟩) 1 1) ld [.slice A r.length cap] [r] (w0.alloc (.cells #[.slice A r.length cap] 22)) (HLd.out.below b1') (Lst_lit (enc := enc1) (k := 1) (fun _ => rfl) w0 w0.heap.size 1 rfl #[.slice A r.length cap] [.slice A r.length cap] 22 rfl rfl (by unfold maxLen; omega)) rfl (fun i u x hu hx => by
    match i, hu, hx with
    | 0, hu, hx => simp at hu hx; subst hu hx; exact HRd.out.below b1'
    | i + 1, hu, hx => simp at hu)
  rw [HOK.out, argE_true] at hchk
  have HCHK := Lib.hid hchk
  have HBw := Lib.hid hB
  clear hchk b1' hB
  go_wp2_with fail
  rw [s0] at HCHK
  refine HCHK.out.mono ?_
  rintro e w2 ⟨rfl, hb2⟩
  have b2 : Below w0.heap.size w0 w2 := ((Below.refl w0.heap.size w0).alloc (Nat.le_refl _) _).trans (hb2.mono (by simp))
  have bw2 : Below B w w2 := b0.trans (b2.mono (by omega))
  have eG2 := (b2.block B (by omega)).trans eG
  have e1 : Boxed w2 (B + 1) 68 (.slice none 0 0) := (b2.block (B + 1) (by omega)).trans e1
  have e2 : Boxed w2 (B + 1 + 1) 33 (.int .i64 0) := (b2.block (B + 1 + 1) (by omega)).trans e2
  have hM0 : B + 3 ≤ w2.heap.size := by have := b2.size; omega
  clear hb2 b2 eG g0 g1 g2 g3 b0 HCHK
  go_upto_region 5 with fail
  obtain ⟨M, hM⟩ : ∃ M, w2.heap.size = M := ⟨_, rfl⟩
  obtain ⟨w4, hw4⟩ : ∃ W', (w2.alloc (.map #[] 0)).alloc (.cells #[.map (some w2.heap.size)] 129) = W' := ⟨_, rfl⟩
  have hS4 : SetN w4 M 0 0 fun _ _ => false := by
    rw [← hw4, ← hM]
    exact (SetN.made w2).kept (World.grownBy_alloc _ _ none) (by simp)
  have eL : Boxed w4 (M + 1) 129 (.map (some M)) := by
    rw [← hw4, ← hM]
    have := Boxed.new (w2.alloc (.map #[] 0)) 129 (.map (some w2.heap.size))
    simpa using this
  have b4 : Below w2.heap.size w2 w4 := by rw [← hw4]; exact ((Below.refl _ _).alloc (Nat.le_refl _) _).alloc (by simp) _
  have s4 : w4.heap.size = M + 1 + 1 := by rw [← hw4, ← hM]; simp
  rw [hw4]
  rw [hM] at b4 hM0 ⊢
  have bw4 : Below B w w4 := bw2.trans (b4.mono (by omega))
  have eG4 := (b4.block B (by omega)).trans eG2
  have e1 : Boxed w4 (B + 1) 68 (.slice none 0 0) := (b4.block (B + 1) (by omega)).trans e1
  have e2 : Boxed w4 (B + 1 + 1) 33 (.int .i64 0) := (b4.block (B + 1 + 1) (by omega)).trans e2
  clear hw4 hM bw2 b4 eG2 s0
  have hK := HOK.out
  simp only [checkRs, List.all_cons, List.all_nil, Bool.and_true, Bool.and_eq_true] at hK
  obtain ⟨hW, hH, hSz, -⟩ := checkG_iff hK.1
  have hrB := hK.2
  clear hK
  simp only [rightB, Bool.and_eq_true, decide_eq_true_eq] at hrB
  have hrows := right_rows hrB.1
  have hP : ∀ c ∈ cellsL r, PtP W H c := by
    intro c hc
    obtain ⟨z, hz, hc⟩ := List.mem_flatMap.1 hc
    obtain ⟨j, hj, rfl⟩ := List.mem_map.1 hc
    have h1 := hrows z hz
    have hj := List.mem_range.1 hj
    dsimp only [PtP]
    omega
  have hbd : ∀ z ∈ r, 0 ≤ z.2.1 ∧ z.2.2 ≤ 256 := fun z hz => by have := hrows z hz; omega
  have hrl := hrB.2
  have hAr : ∀ k z, r[k]? = some z → ∃ b off, A = some ⟨b, off, none⟩ ∧ b < w.heap.size ∧ w.cell? ⟨b, off + k * 3, none⟩ = some (.int .i64 z.1) ∧ w.cell? ⟨b, off + k * 3 + 1, none⟩ = some (.int .i64 z.2.1) ∧ w.cell? ⟨b, off + k * 3 + 2, none⟩ = some (.int .i64 z.2.2) := fun k z hz => by
    obtain ⟨A', c', e, -, -, h3⟩ := HRd.out
    cases e
    obtain ⟨b, off, e, hb, hcs⟩ := h3 (by have := (List.getElem?_eq_some_iff.1 hz).1; omega)
    exact ⟨b, off, e, hb, hcs k 0 z _ hz rfl, hcs k 1 z _ hz rfl, hcs k 2 z _ hz rfl⟩
  rw [HBw.out] at hAr
  clear hrB hrows
  go_wp2_with fail
  refine (cells_call A r.length cap w4).mono ?_
  rintro e w5 ⟨rfl, hw5⟩
  have hBr : w5.cell? ⟨M + 1 + 1, 0, none⟩ = some (.slice A r.length cap) := by rw [hw5, ← s4]; simp [go_sem]
  have b5 : Below w4.heap.size w4 w5 := by rw [hw5]; exact (Below.refl _ _).alloc (Nat.le_refl _) _
  have s5 : w5.heap.size = M + 1 + 1 + 1 := by rw [hw5]; simp [s4]
  clear hw5
  rw [s4] at b5 ⊢
  have eG5 := (b5.block B (by omega)).trans eG4
  have e1 : Boxed w5 (B + 1) 68 (.slice none 0 0) := (b5.block (B + 1) (by omega)).trans e1
  have e2 : Boxed w5 (B + 1 + 1) 33 (.int .i64 0) := (b5.block (B + 1 + 1) (by omega)).trans e2
  have eL : Boxed w5 (M + 1) 129 (.map (some M)) := (b5.block (M + 1) (by omega)).trans eL
  have hS5 := hS4.of_block (b5.block M (by omega))
  have bw5 : Below B w w5 := bw4.trans (b5.mono (by omega))
  clear b5 bw4 hS4 s4 eG4
  have hseq := cellsP_stops (PtP W H) Fence.wide 8 trivial rfl (by omega) (M + 1 + 1) B r.length cap A r hP rfl hbd (by omega) w5 (by omega) (by omega) hBr
    (fun k z hz => by
      obtain ⟨b, off, e, hb, h1, h2, h3⟩ := hAr k z hz
      exact ⟨b, off, e, hb, (bw5.cell (p := ⟨b, off + k * 3, none⟩) hb).trans h1, (bw5.cell (p := ⟨b, off + k * 3 + 1, none⟩) hb).trans h2, (bw5.cell (p := ⟨b, off + k * 3 + 2, none⟩) hb).trans h3⟩)
  go_wp2_with fail
  refine (wpIn_wide (n := 9)).1 (wpIn_rangeFunc_box (d := 8) rfl (by omega) (gf := 109) (lb := #[.pointer (some ⟨M + 1 + 1, 0, none⟩)]) rfl trivial (enters_of Try.func109 (by kernel_rfl) rfl) hseq KpR.t (KpR.b (by omega)) (Below.refl _ _)
    (fun (pre : List { c : Int × Int // PtP W H c }) W' => SetN W' M pre.length pre.length (inC (valsC pre)) ∧ Xt (fun b => b = M) w5 W')
    (fun _ _ _ => False)
    (OwnFrom.and (I := fun (pre : List { c : Int × Int // PtP W H c }) W' => SetN W' M pre.length pre.length (inC (valsC pre))) (fun pre X Y row hs hg hr => hs.kept hg (fun e => by have := (hr M e.symm).1; omega)) xtOwn)
    (fun _ _ _ _ _ hs _ _ => hs)
    ⟨hS5.ext (fun p q => by simp [inC, valsC]), Xt.refl _ _⟩
    (fun c => #[.int .i64 c.1.1, .int .i64 c.1.2]) 39
    ?assign (fun pre W' h => h.2.size) ?body ?done ?stop)
  case assign =>
    rintro l pre ⟨⟨x, y⟩, hx⟩ W' K ⟨hs, hE⟩ hK
    have hba := (Below.refl W'.heap.size W').alloc (Nat.le_refl _) (.cells #[.int .i64 x, .int .i64 y] 39)
    have hK' := hK _ ((KeepsOthers.alloc _ _).from _) (KpR.alloc (by have := hE.size; omega) _) ⟨hs.kept (World.grownBy_alloc W' _ none) (by simp), hE.thenBelow hba hE.size⟩ rfl
    simp only [List.setIfInBounds_toArray, List.set_cons_succ, List.set_cons_zero] at hK' ⊢
    have HK := Lib.hid hK'
    clear hK hK'
    gi_wp2
    exact HK.out
  case body =>
    rintro l pre ⟨⟨x, y⟩, hx⟩ Bx W' hl ⟨lr, hlr⟩ ⟨hs, hE⟩ hBx hbx hlt
    simp only [List.setIfInBounds_toArray, List.set_cons_succ, List.set_cons_zero]
    have x0 : W'.cell? ⟨Bx, 0, none⟩ = some (.int .i64 x) := by simp [World.cell?, hbx]
    have x1 : W'.cell? ⟨Bx, 1, none⟩ = some (.int .i64 y) := by simp [World.cell?, hbx]
    have cL : W'.cell? ⟨M + 1, 0, none⟩ = some (.map (some M)) := (hE.cell (a := ⟨M + 1, 0, none⟩) (by show M + 1 < _; omega) (by simp)).trans (by simp [World.cell?, show w5.heap[M + 1]? = _ from eL])
    have hx' := hx
    dsimp only [PtP] at hx'
    have hlen : pre.length < maxLen := by unfold maxLen; omega
    gi_wp2_with (gi_at_mapUpdate; go_loud (refine wpListIn_update_setN _ rfl _ _ _ _ rfl mapCB M pre.length _ rfl hs hlen x y rfl rfl (isI64_of (by omega)) (isI64_of (by omega)) ?_); intro w' hm' hg')
    refine ⟨KeepsFrom.of_grownBy hg' (fun j e => by have := Option.some.inj e; omega), ⟨(Below.refl B W').grown hg' (by have := hE.size; omega) (fun j e => by have := Option.some.inj e; omega), ?_⟩, ?_, hE.grown hg' (fun r e => .inl (Option.some.inj e).symm)⟩
    · intro k c f h
      refine (hg'.block k (Array.getElem?_eq_some_iff.1 h).1 (fun e => ?_)).trans h
      obtain rfl := Option.some.inj e
      exact hs.notRun h
    · rw [List.length_append, List.length_singleton, valsC_snoc]
      exact hm'.ext fun p q => by rw [← inC_snoc]
  case stop =>
    rintro D c pre W' _ _ h _
    exact h.elim
  case done =>
    rintro D ys W1 hD hys ⟨hs, hE⟩ hK
    rw [← valsC_len ys, show valsC ys = cellsL r from hys] at hs
    have eL := (hE.block (M + 1) (by omega) (by simp)).trans eL
    have e1 : Boxed W1 (B + 1) 68 (.slice none 0 0) := (hE.block (B + 1) (by omega) (by omega)).trans e1
    have e2 : Boxed W1 (B + 1 + 1) 33 (.int .i64 0) := (hE.block (B + 1 + 1) (by omega) (by omega)).trans e2
    have eG := (hE.block B (by omega) (by omega)).trans eG5
    have bw1 : Below B w W1 := hE.below bw5 (by omega) (fun b hb => by omega)
    have sW1 := hE.size
    have hDl : D < W1.heap.size := (Array.getElem?_eq_some_iff.1 hK).1
    clear hseq hS5 hE hys eG5 bw5 hBr
    obtain ⟨Q, hQ⟩ : ∃ Q, W1.heap.size = Q := ⟨_, rfl⟩
    dsimp only
    go_upto_region 12 with fail
    obtain ⟨w3, hw3⟩ : ∃ W', (((W1.alloc (.cells #[.pointer none] 97)).alloc (.cells #[.func (.func 87) #[] #[.pointer (some ⟨M + 1, 0, none⟩), .pointer (some ⟨Q, 0, none⟩), .pointer (some ⟨B, 0, none⟩), .pointer (some ⟨Q + 1, 0, none⟩)]] 143)).alloc (.cells #[.slice none 0 0] 68)) = W' := ⟨_, rfl⟩
    have eT : Boxed w3 Q 97 (.pointer none) := by
      rw [← hw3, ← hQ]
      exact ((Boxed.new W1 97 (.pointer none)).alloc _).alloc _
    have cF : w3.cell? ⟨Q + 1, 0, none⟩ = some (.func (.func 87) #[] #[.pointer (some ⟨M + 1, 0, none⟩), .pointer (some ⟨Q, 0, none⟩), .pointer (some ⟨B, 0, none⟩), .pointer (some ⟨Q + 1, 0, none⟩)]) := by
      rw [← hw3, ← hQ]
      simp [go_sem]
    have eO : Boxed w3 (Q + 1 + 1) 68 (.slice none 0 0) := by
      rw [← hw3, ← hQ]
      have := Boxed.new ((W1.alloc (.cells #[.pointer none] 97)).alloc (.cells #[.func (.func 87) #[] #[.pointer (some ⟨M + 1, 0, none⟩), .pointer (some ⟨W1.heap.size, 0, none⟩), .pointer (some ⟨B, 0, none⟩), .pointer (some ⟨W1.heap.size + 1, 0, none⟩)]] 143)) 68 (.slice none 0 0)
      simpa using this
    have b3 : Below W1.heap.size W1 w3 := by rw [← hw3]; exact (((Below.refl _ _).alloc (Nat.le_refl _) _).alloc (by simp) _).alloc (by simp; omega) _
    have s3 : w3.heap.size = Q + 3 := by rw [← hw3, ← hQ]; simp
    rw [hw3]
    clear hw3
    rw [hQ] at b3 hDl sW1
    go_wp2_with fail
    refine (cells_call A r.length cap w3).mono ?_
    rintro e w4 ⟨rfl, hw4⟩
    have hBr : w4.cell? ⟨Q + 3, 0, none⟩ = some (.slice A r.length cap) := by rw [hw4, ← s3]; simp [go_sem]
    have b4 : Below (Q + 3) w3 w4 := by rw [hw4, ← s3]; exact (Below.refl _ _).alloc (Nat.le_refl _) _
    have s4 : w4.heap.size = Q + 4 := by rw [hw4]; simp [s3]
    rw [s3]
    clear hw4 s3
    have eT : Boxed w4 Q 97 (.pointer none) := (b4.block Q (by omega)).trans eT
    have cF := (b4.cell (p := ⟨Q + 1, 0, none⟩) (by show Q + 1 < _; omega)).trans cF
    have eO : Boxed w4 (Q + 1 + 1) 68 (.slice none 0 0) := (b4.block (Q + 1 + 1) (by omega)).trans eO
    have b14 : Below Q W1 w4 := b3.trans (b4.mono (by omega))
    have eL := (b14.block (M + 1) (by omega)).trans eL
    have e1 : Boxed w4 (B + 1) 68 (.slice none 0 0) := (b14.block (B + 1) (by omega)).trans e1
    have e2 : Boxed w4 (B + 1 + 1) 33 (.int .i64 0) := (b14.block (B + 1 + 1) (by omega)).trans e2
    have eG := (b14.block B (by omega)).trans eG
    have hs := hs.of_block (b14.block M (by omega))
    have hK := (b14.block D hDl).trans hK
    have bw4 : Below B w w4 := bw1.trans (b14.mono (by omega))
    clear b3 b4 b14 bw1
    have hseq := cellsP_stops (PtP W H) Fence.wide 8 trivial rfl (by omega) (Q + 3) B r.length cap A r hP rfl hbd (by omega) w4 (by omega) (by omega) hBr
      (fun k z hz => by
        obtain ⟨b, off, e, hb, h1, h2, h3⟩ := hAr k z hz
        exact ⟨b, off, e, hb, (bw4.cell (p := ⟨b, off + k * 3, none⟩) hb).trans h1, (bw4.cell (p := ⟨b, off + k * 3 + 1, none⟩) hb).trans h2, (bw4.cell (p := ⟨b, off + k * 3 + 2, none⟩) hb).trans h3⟩)
    have hI0 : PtI w4 w4 M Q (cellsL r).length W H (inC (cellsL r)) [] (.slice none 0 0) [] (.pointer none) :=
      ⟨⟨_, Nat.le_refl _, hs⟩, eT, eO, World.ownsRow_nil _ _ _ _, rfl, fun i u L hu _ => by simp at hu, Xt.refl _ _, s4, by omega⟩
    clear hs eT eO hAr hBr
    go_wp2_with fail
    refine (wpIn_wide (n := 9)).1 (wpIn_rangeFunc_box (d := 12) rfl (by omega) (gf := 109) (lb := #[.pointer (some ⟨Q + 3, 0, none⟩)]) rfl trivial (enters_of Try.func109 (by kernel_rfl) rfl) hseq KpR.t (KpR.b (by omega)) (Below.refl _ _)
      (fun (pre : List { c : Int × Int // PtP W H c }) W' => ∃ ov us tv, PtI w4 W' M Q (cellsL r).length W H (inC (cellsL r)) (valsC pre) ov us tv)
      (fun _ _ _ => False)
      (fun pre X Y row ⟨ov, us, tv, hI⟩ hg hr => ⟨ov, us, tv, hI.kept hg (fun r e => by have := hr r e; rw [s4] at this; exact this)⟩)
      (fun _ _ _ _ _ hs _ _ => hs)
      ⟨_, _, _, hI0⟩
      (fun c => #[.int .i64 c.1.1, .int .i64 c.1.2]) 39
      ?assign2 (fun pre W' ⟨_, _, _, h⟩ => h.x.size) ?body2 ?done2 ?stop2)
    case assign2 =>
      rintro l pre ⟨⟨x, y⟩, hx⟩ W' K ⟨ov, us, tv, hI⟩ hK
      have hK' := hK _ ((KeepsOthers.alloc _ _).from _) (KpR.alloc (by have := hI.x.size; omega) _) ⟨ov, us, tv, hI.kept (World.grownBy_alloc W' _ none) (by simp)⟩ rfl
      simp only [List.setIfInBounds_toArray, List.set_cons_succ, List.set_cons_zero] at hK' ⊢
      have HK := Lib.hid hK'
      clear hK hK'
      gi_wp2
      exact HK.out
    case body2 =>
      rintro l pre ⟨⟨x, y⟩, hx⟩ Bx W' hl ⟨lr, hlr⟩ ⟨ov, us, tv, hI⟩ hBx hbx hlt
      simp only [List.setIfInBounds_toArray, List.set_cons_succ, List.set_cons_zero]
      have x0 : W'.cell? ⟨Bx, 0, none⟩ = some (.int .i64 x) := by simp [World.cell?, hbx]
      have x1 : W'.cell? ⟨Bx, 1, none⟩ = some (.int .i64 y) := by simp [World.cell?, hbx]
      have hlB : B ≤ M := by omega
      have eL' := (hI.x.block (M + 1) (by omega) (by omega)).trans eL
      have eG' := (hI.x.block B (by omega) (by omega)).trans eG
      have cF' := (hI.x.cell (a := ⟨Q + 1, 0, none⟩) (by show Q + 1 < _; omega) (by show ¬ (Q + 1 = M ∨ Q + 1 = Q ∨ Q + 1 = Q + 1 + 1); omega)).trans cF
      have cL : W'.cell? ⟨M + 1, 0, none⟩ = some (.map (some M)) := by simp [World.cell?, eL']
      have hx' := hx
      dsimp only [PtP] at hx'
      have ix : isI64 x := isI64_of (by omega)
      have iy : isI64 y := isI64_of (by omega)
      have sW' := hI.x.size
      obtain ⟨n', hn', hm⟩ := hI.m
      obtain ⟨oA, oc, rfl⟩ := rowSlice hI.orow
      clear eL eG cF hI0 hseq hbd
      cases hC : (partsC (cellsL r).length (valsC pre) (inC (cellsL r))).1 x y with
      | false =>
        gi_wp2_with (gi_at_lookup; go_loud (refine wpListIn_lookup_setN _ rfl _ _ _ rfl mapCB M _ n' _ rfl hm x y rfl ix iy ?_); rw [hC])
        exact ⟨hI.keepsFrom (Xt.refl _ _), hI.kp (Xt.refl _ _) hlB, ⟨_, _, _, by rw [valsC_snoc]; exact hI.same hC⟩⟩
      | true =>
        obtain ⟨T, hT⟩ : ∃ T, W'.heap.size = T := ⟨_, rfl⟩
        have cT := (hI.t.alloc (.cells Try.zeroCells100 100)).cell
        have fT := (hI.t.alloc (.cells Try.zeroCells100 100)).frozen
        gi_upto_region 16 with (gi_at_lookup; go_loud (refine wpListIn_lookup_setN _ rfl _ _ _ rfl mapCB M _ n' _ rfl hm x y rfl ix iy ?_); rw [hC])
        obtain ⟨wb, hwb⟩ : ∃ w', (W'.alloc (.cells Try.zeroCells100 100)).setCell ⟨Q, 0, none⟩ (.pointer (some ⟨T, 0, none⟩)) = w' := ⟨_, rfl⟩
        have hlow : ∀ b, b < Q + 4 → (Value.slice oA us.length oc).ownBlock ≠ some b := fun b hb e => by have := (rowBlock hI.orow e).1; omega
        have xb : Xt (fun b => b = M ∨ b = Q) W' wb := by
          rw [← hwb]
          exact ((Xt.refl _ W').thenBelow ((Below.refl _ _).alloc (Nat.le_refl _) _) (Nat.le_refl _)).grown (grownBy_setCell' _ Q _) (fun r e => .inl (.inr (Option.some.inj e).symm))
        have tb : Tab wb T (fun _ => .slice none 0 0) (fun _ => []) := by
          rw [← hwb]
          exact (Tab.new W' T hT).kept (grownBy_setCell' _ Q _) (by omega)
        have mb : SetN wb M (cellsL r).length n' (partsC (cellsL r).length (valsC pre) (inC (cellsL r))).1 := by
          rw [← hwb]
          exact (hm.kept (World.grownBy_alloc W' _ none) (by simp)).kept (grownBy_setCell' _ Q _) (fun e => by have := Option.some.inj e; omega)
        have tQ : Boxed wb Q 97 (.pointer (some ⟨T, 0, none⟩)) := by
          rw [← hwb]
          exact (hI.t.alloc _).set _
        have sb : T + 1 ≤ wb.heap.size := by
          have := (grownBy_setCell' (W'.alloc (.cells Try.zeroCells100 100)) Q (.pointer (some ⟨T, 0, none⟩))).size
          rw [hwb] at this
          simp at this
          omega
        rw [hwb]
        clear hwb cT fT
        have keyb : ∀ (b o : Nat), b < Q + 4 → b ≠ M → b ≠ Q → wb.cell? ⟨b, o, none⟩ = W'.cell? ⟨b, o, none⟩ := fun b o h1 h2 h3 => xb.cell (a := ⟨b, o, none⟩) (by show b < _; omega) (by show ¬ (b = M ∨ b = Q); omega)
        have pf : PfF wb (M + 1) Q B (Q + 1) M T W H S vL :=
          ⟨(keyb (M + 1) 0 (by omega) (by omega) (by omega)).trans cL, tQ.cell, (keyb B 0 (by omega) (by omega) (by omega)).trans (by simp [World.cell?, eG']), (keyb B 1 (by omega) (by omega) (by omega)).trans (by simp [World.cell?, eG']), (keyb B 2 (by omega) (by omega) (by omega)).trans (by simp [World.cell?, eG']), (keyb B 3 (by omega) (by omega) (by omega)).trans (by simp [World.cell?, eG']), (keyb (Q + 1) 0 (by omega) (by omega) (by omega)).trans cF'⟩
        have x0 := (xb.cell (a := ⟨Bx, 0, none⟩) (Array.getElem?_eq_some_iff.1 hbx).1 (by show ¬ (Bx = M ∨ Bx = Q); omega)).trans x0
        have x1 := (xb.cell (a := ⟨Bx, 1, none⟩) (Array.getElem?_eq_some_iff.1 hbx).1 (by show ¬ (Bx = M ∨ Bx = Q); omega)).trans x1
        have cFb := pf.cf
        have hSin : ∀ p q, (partsC (cellsL r).length (valsC pre) (inC (cellsL r))).1 p q = true → (0 ≤ p ∧ p < W) ∧ 0 ≤ q ∧ q < H := fun p q h => by
          have := partsC_sub _ _ _ p q h
          simp only [inC, decide_eq_true_eq] at this
          exact hP _ this
        have hfill := fill_gr W H S vL (M + 1) Q B (Q + 1) M T (cellsL r).length (cellsL r).length hW hH ⟨⟨by omega, by omega⟩, ⟨by omega, by omega⟩, ⟨by omega, by omega⟩, by omega, by omega⟩ (by omega) (by omega) (cellsL r).length x y n' ((partsC (cellsL r).length (valsC pre) (inC (cellsL r))).1, cellF W H []) (fun _ => .slice none 0 0) wb hn' ix iy hSin pf mb tb (fun i => by simpa [cellF] using hn')
        rw [floodF_eq] at hfill
        obtain ⟨FC, hFC⟩ : ∃ FC, floodC (cellsL r).length (x, y) ((partsC (cellsL r).length (valsC pre) (inC (cellsL r))).1, []) = FC := ⟨_, rfl⟩
        have hFin : ∀ c, c ∈ FC.2 → (0 ≤ c.1 ∧ c.1 < W) ∧ 0 ≤ c.2 ∧ c.2 < H := fun c hc => hSin _ _ (floodC_in _ _ _ c (by rw [hFC]; exact hc))
        rw [hFC] at hfill
        have HF := Lib.hid hfill
        have HSI := Lib.hid hSin
        have HKB := Lib.hid keyb
        clear hfill hSin keyb cL cF' eG' eL'
        gi_wp2_with fail
        refine ⟨trivial, (CallsIn.inRound l (callsIn_wide.2 HF.out)).mono ?_⟩
        rintro e wc ⟨rfl, vs', n2, hn2, mc, tc, lc, lt⟩
        have xc := xb.ofTl lt (.inl rfl) (by omega)
        have cQ := (lt.cell (p := ⟨Q, 0, none⟩) (by show Q < _; omega) (by show Q ≠ T; omega) (by show Q ≠ M; omega) (fun i _ e => by simp [Value.ownBlock] at e)).trans tQ.cell
        have tQ : Boxed wc Q 97 (.pointer (some ⟨T, 0, none⟩)) := (lt.un Q (by omega) (by omega) (by omega) (fun i _ e => by simp [Value.ownBlock] at e)).1.trans tQ
        have hreg := region_own T vs' (cellF W H FC.2) wc tc (fun i _ => by have := lc i; omega) (fun i _ s hs => by have := cellF_mem hs; omega)
        have HRG := Lib.hid hreg
        clear hreg x0 x1 cFb pf HF mb tb
        gi_wp2_with fail
        refine ⟨trivial, (CallsIn.inRound l (callsIn_wide.2 HRG.out)).mono ?_⟩
        rintro e wd ⟨⟨R, hR, v, rfl, hrow⟩, bd⟩
        obtain rfl := cells_eq hW hH hFin hR
        have hRl : (refR (inC FC.2) W.toNat H.toNat).length ≤ 8192 := by
          have h1 := refR_more (inC FC.2) W.toNat H.toNat
          have h2 : ((W.toNat * H.toNat : Nat) : Int) = W * H := by rw [Int.natCast_mul, Int.toNat_of_nonneg (by omega), Int.toNat_of_nonneg (by omega)]
          omega
        have hrow : wd.ownsRow wc.heap.size 72 3 v (refR (inC FC.2) W.toNat H.toNat).length (flatE encR (refR (inC FC.2) W.toNat H.toNat)) := hrow hRl
        have hif : (if (refR (fun x y => decide ((x, y) ∈ FC.2)) W.toNat H.toNat).length ≤ 8192 then (0 : Int) else 3) = 0 := if_pos hRl
        rw [hif]
        have sc := xc.size
        have xd := xc.thenBelow bd (by omega)
        have md := mc.of_block (bd.block M (by omega))
        have tQ : Boxed wd Q 97 (.pointer (some ⟨T, 0, none⟩)) := (bd.block Q (by omega)).trans tQ
        have oQ : Boxed wd (Q + 1 + 1) 68 (.slice oA us.length oc) := (xd.block (Q + 1 + 1) (by omega) (by omega)).trans hI.o
        have orow := rowOfBlock hI.orow (W' := wd) (fun g hg => xd.block g (by obtain ⟨-, cur, hc⟩ := rowBlock hI.orow hg; exact (Array.getElem?_eq_some_iff.1 hc).1) (by have := (rowBlock hI.orow hg).1; omega))
        have sd := xd.size
        have hus : us.length ≤ 2097152 := by
          have h1 := partsC_len (cellsL r).length (valsC pre) (inC (cellsL r))
          rw [valsC_len] at h1
          have := hI.ul
          omega
        obtain ⟨vA, vc, rfl⟩ := rowSlice hrow
        obtain ⟨RR, hRR⟩ : ∃ RR, refR (inC FC.2) W.toNat H.toNat = RR := ⟨_, rfl⟩
        rw [hRR] at hrow ⊢
        obtain ⟨i0, hi, hz0, hz1, hz2⟩ := info_parts infoRow
        have oC := (oQ.alloc (.cells #[.slice vA RR.length vc] 22)).cell
        have oC0 := oQ.cell
        clear hif HRG hR cQ
        gi_wp2_with (gi_at_builtin; go_loud (refine wpListIn_append_own _ rfl _ _ 68 rfl (Q + 4) 22 i0 (.slice none 0 0) 1 24 Try.underlying68 hi hz0 hz1 hz2 rfl (by decide) _ us.length us rfl (orow.alloc _) ⟨wd.heap.size, 0, none⟩ 1 1 [.slice vA RR.length vc] rfl rfl (newsLit (cs := #[.slice vA RR.length vc]) rfl) (by simp [Value.oneCell']) (by unfold maxLen; omega) (by omega) (by simp; omega) ?_); intro v' w1 hown' hgrow _; obtain ⟨g', cap', rfl⟩ := ownsRow_succ hown'; have hv1 : Boxed w1 (Q + 1 + 1) 68 (.slice oA us.length oc) := (oQ.alloc _).kept hgrow (oQ.not_row (by decide) orow); have hc1 := hv1.cell; have hf1 := hv1.frozen)
        have hgs := grownBy_setCell' w1 (Q + 1 + 1) (.slice (some ⟨g', 0, none⟩) (us.length + 1) cap')
        have hog := hv1.set (.slice (some ⟨g', 0, none⟩) (us.length + 1) cap')
        have hrg := hown'.kept hgs (.inr (hv1.not_row (by decide) hown').symm)
        obtain ⟨wg, hwg⟩ : ∃ w', w1.setCell ⟨Q + 1 + 1, 0, none⟩ (.slice (some ⟨g', 0, none⟩) (us.length + 1) cap') = w' := ⟨_, rfl⟩
        rw [hwg] at hgs hog hrg ⊢
        have xg : Xt (PtF M Q (.slice oA us.length oc)) W' wg :=
          (((xd.transG (Xt.refl (fun b => b = M ∨ b = Q) wd) (fun b hb => hb.elim .inl (fun e => .inr (.inl e))) (fun b _ hb => hb.elim .inl (fun e => .inr (.inl e)))).grown (World.grownBy_alloc wd _ none) (fun r e => by cases e)).grown hgrow (fun r e => .inl (.inr (.inr (.inr e))))).grown hgs (fun r e => .inl (.inr (.inr (.inl (Option.some.inj e).symm))))
        have mg : SetN wg M (cellsL r).length n2 FC.1 := ((md.kept (World.grownBy_alloc wd _ none) (by simp)).kept hgrow (fun e => hlow M (by omega) e.symm)).kept hgs (fun e => by have := Option.some.inj e; omega)
        have tg : Boxed wg Q 97 (.pointer (some ⟨T, 0, none⟩)) :=
          (hgs.block Q (Nat.lt_of_lt_of_le (tQ.alloc (.cells #[.slice vA RR.length vc] 22)).lt hgrow.size) (fun e => by have := Option.some.inj e; omega)).trans ((hgrow.block Q (tQ.alloc (.cells #[.slice vA RR.length vc] 22)).lt (fun e => hlow Q (by omega) e.symm)).trans (tQ.alloc (.cells #[.slice vA RR.length vc] 22)))
        have vg : wg.ownsRow (Q + 4) 72 3 (.slice vA RR.length vc) RR.length (flatE encR RR) := by
          refine rowOfBlock (rowMono hrow (b' := Q + 4) (by omega)) fun g hg => ?_
          obtain ⟨hg1, cur, hg2⟩ := rowBlock hrow hg
          have hgl := (Array.getElem?_eq_some_iff.1 hg2).1
          refine (hgs.block g (Nat.lt_of_lt_of_le (by simp; omega) hgrow.size) (fun e => by have := Option.some.inj e; omega)).trans ((hgrow.block g (by simp; omega) (fun e => ?_)).trans (Below.heap_alloc wd _ g hgl))
          obtain ⟨-, cur2, hc2⟩ := rowBlock hI.orow e.symm
          have := (Array.getElem?_eq_some_iff.1 hc2).1
          omega
        rw [s4]
        exact ⟨hI.keepsFrom xg, hI.kp xg hlB, ⟨_, _, _, by rw [valsC_snoc]; exact hI.more (n := n2) hC xg (by omega) (by rw [hFC]; exact mg) tg hog hrg (by rw [hFC, hRR]; exact vg)⟩⟩
    case stop2 =>
      rintro D c pre W' _ _ h _
      exact h.elim
    case done2 =>
      rintro D2 ys W5 hD2 hys ⟨ov, us, tv, hI⟩ hK2
      rw [show valsC ys = cellsL r from hys] at hI
      obtain ⟨oA, oc, rfl⟩ := rowSlice hI.orow
      have bT : Below B w W5 := hI.x.below bw4 (by omega) (fun b hb => by omega)
      have e1 : Boxed W5 (B + 1) 68 (.slice none 0 0) := (hI.x.block (B + 1) (by omega) (by omega)).trans e1
      have e2 : Boxed W5 (B + 1 + 1) 33 (.int .i64 0) := (hI.x.block (B + 1 + 1) (by omega) (by omega)).trans e2
      have hK := (hI.x.block D (by omega) (by omega)).trans hK
      have eO := hI.o
      have sW5 := hI.x.size
      have cO := eO.cell
      have c1 := e1.cell
      have c2 := e2.cell
      have f1 := e1.frozen
      have f2 := e2.frozen
      have HI := Lib.hid hI
      clear hI hseq hI0 eG cF eL bw4
      dsimp only
      go_wp2_with fail
      obtain ⟨W6, hW6⟩ : ∃ W', (W5.setCell ⟨B + 1, 0, none⟩ (.slice oA us.length oc)).setCell ⟨B + 1 + 1, 0, none⟩ (.int .i64 0) = W' := ⟨_, rfl⟩
      have x5 : Xt (fun b => b = B + 1 ∨ b = B + 1 + 1) W5 W6 := by
        rw [← hW6]
        exact ((Xt.refl _ W5).grown (grownBy_setCell' W5 (B + 1) _) (fun r e => .inl (.inl (Option.some.inj e).symm))).grown (grownBy_setCell' _ (B + 1 + 1) _) (fun r e => .inl (.inr (Option.some.inj e).symm))
      have e1 : Boxed W6 (B + 1) 68 (.slice oA us.length oc) := by
        rw [← hW6]
        exact ((grownBy_setCell' _ (B + 1 + 1) _).block (B + 1) (e1.set (.slice oA us.length oc)).lt (by simp)).trans (e1.set (.slice oA us.length oc))
      have e2 : Boxed W6 (B + 1 + 1) 33 (.int .i64 0) := by
        rw [← hW6]
        have h2 : Boxed (W5.setCell ⟨B + 1, 0, none⟩ (.slice oA us.length oc)) (B + 1 + 1) 33 (.int .i64 0) := ((grownBy_setCell' W5 (B + 1) (.slice oA us.length oc)).block (B + 1 + 1) e2.lt (by simp)).trans e2
        exact h2.set (.int .i64 0)
      rw [hW6]
      clear hW6
      have hK2 := (x5.block D2 (Array.getElem?_eq_some_iff.1 hK2).1 (by omega)).trans hK2
      have hK := (x5.block D (Array.getElem?_eq_some_iff.1 hK).1 (by omega)).trans hK
      have bT := x5.below bT (by omega) (fun b hb => by omega)
      have hro := rowOfBlock HI.out.orow (W' := W6) (fun g hg => x5.block g (by obtain ⟨-, cur, hc⟩ := rowBlock HI.out.orow hg; exact (Array.getElem?_eq_some_iff.1 hc).1) (by have := (rowBlock HI.out.orow hg).1; omega))
      have hru : ∀ (i : Nat) (u : Value) (L : List (Int × Int)), us[i]? = some u → (partsC (cellsL r).length (cellsL r) (inC (cellsL r))).2[i]? = some L → W6.ownsRow (Q + 4) 72 3 u (refR (inC L) W.toNat H.toNat).length (flatE encR (refR (inC L) W.toNat H.toNat)) := fun i u L hu hL => by
        have hr := HI.out.ur i u L hu hL
        exact rowOfBlock hr (fun g hg => x5.block g (by obtain ⟨-, cur, hc⟩ := rowBlock hr hg; exact (Array.getElem?_eq_some_iff.1 hc).1) (by have := (rowBlock hr hg).1; omega))
      refine ⟨by simp, .inl ⟨_, _, rfl, run_takeDeferred hK2, ?_⟩⟩
      have hK3 := (World.putObj_heap_other (w := W6) (r := D2) (o := .deferred none) (k := D) (by omega)).trans hK
      refine ⟨by simp, .inl ⟨_, _, rfl, run_takeDeferred hK3, ?_⟩⟩
      have c1 : ((W6.putObj D2 (.deferred none)).putObj D (.deferred none)).cell? ⟨B + 1, 0, none⟩ = some (.slice oA us.length oc) := (World.cell?_of_block (a := ⟨B + 1, 0, none⟩) ((World.putObj_heap_other (by show B + 1 ≠ _; omega)).trans (World.putObj_heap_other (by show B + 1 ≠ _; omega)))).trans e1.cell
      have c2 : ((W6.putObj D2 (.deferred none)).putObj D (.deferred none)).cell? ⟨B + 1 + 1, 0, none⟩ = some (.int .i64 0) := (World.cell?_of_block (a := ⟨B + 1 + 1, 0, none⟩) ((World.putObj_heap_other (by show B + 1 + 1 ≠ _; omega)).trans (World.putObj_heap_other (by show B + 1 + 1 ≠ _; omega)))).trans e2.cell
      refine ⟨.tuple #[.slice oA us.length oc, .int .i64 0], ?_, .slice oA us.length oc, us, rfl, ?_, HI.out.ul, ?_, ?_⟩
      · simp [results, Try.results37, go_sem, c1, c2]
      · have h1 := ownsRow_putObj (ownsRow_putObj hro (.deferred none) hK2 rfl) (.deferred none) hK3 rfl
        exact rowLst (enc := enc1) (k := 1) (fun _ => rfl) (L := us) (by rw [flat1]; exact h1)
      · intro i u L hu hL
        exact rowLst (enc := encR) (k := 3) (fun _ => rfl) (ownsRow_putObj (ownsRow_putObj (hru i u L hu hL) _ hK2 rfl) _ hK3 rfl)
      · rw [HBw.out]
        refine bT.trans (Below.trans (b := W6.putObj D2 (.deferred none)) ?_ ?_)
        · exact belowK_b (w := W1) (by omega) W6 D2 _ _ (by omega) hK2 rfl rfl
        · exact belowK_b (w := w5) (by omega) _ D _ _ (by omega) hK3 rfl rfl
end Go.Proofs.Ytnbdnnbeiohmgaa
