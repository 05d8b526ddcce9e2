/- tracks.Covers: which cells it says are covered. -/
import Derived.Test.YtnbdnnbeiohmgaaDoorTrCovers2
import Derived.Test.YtnbdnnbeiohmgaaDoorTrA
import Derived.Test.YtnbdnnbeiohmgaaDoorLgTwo
import Derived.Sort.BigQuietIn
import Derived.LoopIn
import Derived.LoopNIn
namespace Go.Proofs.YtnbdnnbeiohmgaaDoor
open Go.RowKit Go.Shelf
open Go.Proofs.Rings (Leg sg)
attribute [local go_sem] Oper.semAt_some

theorem map129 : Tryd.prog.underlying 80 = some (.map 77 4) := Tryd.underlying80

/-- all that lay is left as it lay, but block M -/
structure But (M : Nat) (W W' : World) : Prop where
  os : W'.os = W.os
  tape : W'.tape = W.tape
  output : W'.output = W.output
  size : W.heap.size ≤ W'.heap.size
  block : ∀ k, k < W.heap.size → k ≠ M → W'.heap[k]? = W.heap[k]?
theorem But.refl (M : Nat) (W : World) : But M W W := ⟨rfl, rfl, rfl, Nat.le_refl _, fun _ _ _ => rfl⟩
theorem But.trans {M : Nat} {A B C : World} (h : But M A B) (k : But M B C) : But M A C :=
  ⟨k.os.trans h.os, k.tape.trans h.tape, k.output.trans h.output, Nat.le_trans h.size k.size, fun i hi hne => (k.block i (Nat.lt_of_lt_of_le hi h.size) hne).trans (h.block i hi hne)⟩
theorem But.of_below {M : Nat} {A B : World} (h : Below A.heap.size A B) : But M A B := ⟨h.os, h.tape, h.output, h.size, fun i hi _ => h.block i hi⟩
theorem But.of_grown {M : Nat} {A B : World} (h : A.grownBy B (some M)) : But M A B := ⟨h.os, h.tape, h.output, h.size, fun i hi hne => h.block i hi (fun e => hne (by cases e; rfl))⟩
theorem But.alloc {M : Nat} {A B : World} (h : But M A B) (o : Obj) : But M A (B.alloc o) := h.trans (But.of_below ((Below.refl _ _).alloc (Nat.le_refl _) _))
theorem But.drewN {M : Nat} {A B : World} (h : But M A B) (n : Nat) : But M A (B.drewN n) := ⟨h.os, h.tape, h.output, h.size, h.block⟩
theorem But.below {M n : Nat} {w A B : World} (h : But M A B) (hb : Below n w A) (hn : n ≤ w.heap.size) (hM : n ≤ M) : Below n w B :=
  ⟨h.os.trans hb.os, h.tape.trans hb.tape, h.output.trans hb.output, Nat.le_trans hb.size h.size, fun i hi => (h.block i (Nat.lt_of_lt_of_le hi (Nat.le_trans hn hb.size)) (by omega)).trans (hb.block i hi)⟩
theorem But.cell {M : Nat} {A B : World} (h : But M A B) {p : Addr} (hp : p.block < A.heap.size) (hne : p.block ≠ M) : B.cell? p = A.cell? p := World.cell?_of_block (h.block _ hp hne)
theorem But.keepB {M : Nat} {S : Nat → Prop} {A B : World} (h : But M A B) (hS : ∀ q, S q → q < A.heap.size ∧ q ≠ M) : KeepB S A B := ⟨h.size, fun p hp => h.cell (hS _ hp).1 (hS _ hp).2⟩
theorem But.keepsFrom {M n : Nat} {A B : World} (h : But M A B) (hM : M < n) : KeepsFrom n A B :=
  ⟨h.size, fun k o hk hl _ => (h.block k (Array.getElem?_eq_some_iff.1 hl).1 (by omega)).trans hl⟩

/-- what Covers keeps where -/
structure CvF (w W : World) (B M : Nat) (gW gH gS : Int) (vL : Value) (wd : Int) : Prop where
  c0 : W.cell? ⟨B, 0, none⟩ = some (.int .i64 gW)
  c1 : W.cell? ⟨B, 1, none⟩ = some (.int .i64 gH)
  c2 : W.cell? ⟨B, 2, none⟩ = some (.int .i64 gS)
  c3 : W.cell? ⟨B, 3, none⟩ = some vL
  c5 : W.cell? ⟨B + 1, 0, none⟩ = some (.int .i64 wd)
  cm : W.cell? ⟨M + 1, 0, none⟩ = some (.map (some M))
  hb : Below B w W
  hB : B ≤ w.heap.size
  hz : M + 1 < W.heap.size
  hM : B + 1 < M
theorem CvF.but {w W W' : World} {B M : Nat} {gW gH gS : Int} {vL : Value} {wd : Int} (h : CvF w W B M gW gH gS vL wd) (k : But M W W') : CvF w W' B M gW gH gS vL wd := by
  obtain ⟨c0, c1, c2, c3, c5, cm, hb, hB, hz, hM⟩ := h
  exact ⟨(k.cell (by show B < _; omega) (by show B ≠ M; omega)).trans c0, (k.cell (by show B < _; omega) (by show B ≠ M; omega)).trans c1, (k.cell (by show B < _; omega) (by show B ≠ M; omega)).trans c2, (k.cell (by show B < _; omega) (by show B ≠ M; omega)).trans c3,
    (k.cell (by show B + 1 < _; omega) (by show B + 1 ≠ M; omega)).trans c5, (k.cell (by show M + 1 < _; omega) (by show M + 1 ≠ M; omega)).trans cm, k.below hb hB (by omega), hB, Nat.lt_of_lt_of_le hz k.size, hM⟩
theorem CvF.own {w W W' : World} {B M n : Nat} {gW gH gS : Int} {vL : Value} {wd : Int} {row : Option Nat} (h : CvF w W B M gW gH gS vL wd) (hn : M + 1 < n) (hg : W.grownBy W' row) (hr : ∀ r, row = some r → n ≤ r ∧ ∃ o : Obj, W.heap[r]? = some o ∧ o.isCells = false) : CvF w W' B M gW gH gS vL wd := by
  obtain ⟨c0, c1, c2, c3, c5, cm, hb, hB, hz, hM⟩ := h
  have hr2 := fun r e => (hr r e).2
  exact ⟨cell_kept c0 hg hr2, cell_kept c1 hg hr2, cell_kept c2 hg hr2, cell_kept c3 hg hr2, cell_kept c5 hg hr2, cell_kept cm hg hr2, hb.grown hg (by omega) (fun k e => by have := (hr k e).1; omega), hB, Nat.lt_of_lt_of_le hz hg.size, hM⟩

theorem tdiv_i64 {a s : Int} (ha : i64 a) (hs : 1 ≤ s) : wrap64 (a.tdiv s) = a.tdiv s := by
  unfold i64 at ha
  rcases Int.lt_or_le a 0 with h | h
  · have e : a.tdiv s = -((-a).tdiv s) := by rw [Int.neg_tdiv, Int.neg_neg]
    have h2 : (-a).tdiv s = (-a) / s := Int.tdiv_eq_ediv_of_nonneg (by omega)
    have h3 := Int.ediv_le_self s (show 0 ≤ -a by omega)
    have h4 : 0 ≤ (-a) / s := Int.ediv_nonneg (by omega) (by omega)
    rw [e, h2]
    exact w64 _ (by omega) (by omega)
  · have h2 : a.tdiv s = a / s := Int.tdiv_eq_ediv_of_nonneg h
    have h3 := Int.ediv_le_self s h
    have h4 : 0 ≤ a / s := Int.ediv_nonneg h (by omega)
    rw [h2]
    exact w64 _ (by omega) (by omega)
theorem CvF.grown {w W W' : World} {B M : Nat} {gW gH gS : Int} {vL : Value} {wd : Int} {row : Option Nat} (h : CvF w W B M gW gH gS vL wd) (hg : W.grownBy W' row) (hr : ∀ r, row = some r → M + 1 < r) : CvF w W' B M gW gH gS vL wd := by
  obtain ⟨c0, c1, c2, c3, c5, cm, hb, hB, hz, hM⟩ := h
  have key : ∀ p : Addr, p.block ≤ M + 1 → W'.cell? p = W.cell? p := fun p hp => hg.cell_far p (by omega) (fun e => by have := hr _ e.symm; omega)
  exact ⟨(key _ (by show B ≤ _; omega)).trans c0, (key _ (by show B ≤ _; omega)).trans c1, (key _ (by show B ≤ _; omega)).trans c2, (key _ (by show B ≤ _; omega)).trans c3, (key _ (by show B + 1 ≤ _; omega)).trans c5, (key _ (by show M + 1 ≤ _; omega)).trans cm,
    hb.grown hg (by have := hb.size; omega) (fun k e => by have := hr k e; omega), hB, Nat.lt_of_lt_of_le hz hg.size, hM⟩
theorem covL_in {gW gH gS wd p q : Int} {z : Leg} (hW : 1 ≤ gW ∧ gW ≤ 256) (hH : 1 ≤ gH ∧ gH ≤ 256) (h : covL gW gH gS wd z p q = true) : (0 ≤ p ∧ p < gW) ∧ 0 ≤ q ∧ q < gH := by
  unfold covL inRng at h
  simp only [Bool.and_eq_true, decide_eq_true_eq] at h
  have e1 := wrapId (gW - 1) (by omega) (by omega)
  have e2 := wrapId (gH - 1) (by omega) (by omega)
  omega
theorem joinX_len (o : List S2) (x : Int) : (joinX o x).length ≤ o.length + 1 := by
  rcases List.eq_nil_or_concat o with rfl | ⟨o', a, rfl⟩
  · simp [joinX]
  · rw [List.concat_eq_append]
    by_cases h : a.2 = x
    · rw [joinX_in h]
      simp
    · rw [joinX_out h]
      simp
theorem refR_len (P : Int → Int → Bool) (W : Nat) : ∀ H, (refR P W H).length ≤ W * H
  | 0 => by simp [refR, rowsR]
  | H + 1 => by
    have h1 := refR_len P W H
    have h2 := runRow_len (fun x => P x H) W
    unfold refR at h1 ⊢
    rw [rowsR_succ, List.length_append, Nat.mul_succ]
    simp only [rowR, List.length_map]
    omega
/-- what a leg covers, its cells' bounds named -/
theorem covL_named {fx fy wx wy far ex ey a1 e1 a2 e2 p1 q1 p2 q2 gW gH gS wd : Int} (hx : shW fx wx far = ex) (hy : shW fy wy far = ey) (h1 : wrap64 (min fx ex - wd) = a1) (h2 : wrap64 (max fx ex + wd) = e1) (h3 : wrap64 (min fy ey - wd) = a2) (h4 : wrap64 (max fy ey + wd) = e2)
    (k1 : max 0 (wrap64 (a1.tdiv gS - 1)) = p1) (k2 : min (wrap64 (gW - 1)) (wrap64 (e1.tdiv gS + 1)) = q1) (k3 : max 0 (wrap64 (a2.tdiv gS - 1)) = p2) (k4 : min (wrap64 (gH - 1)) (wrap64 (e2.tdiv gS + 1)) = q2) (p q : Int) :
    covL gW gH gS wd { fx, fy, wx, wy, far } p q = (decide (p1 ≤ p) && decide (p ≤ q1) && (decide (p2 ≤ q) && decide (q ≤ q2)) && covA { fx, fy, wx, wy, far } gS wd p q) := by
  unfold covL inRng
  dsimp only
  rw [hx, hy, h1, h2, h3, h4, k1, k2, k3, k4]

set_option maxRecDepth 100000 in
set_option maxHeartbeats 16000000 in
theorem covers_ok (gW gH gS wd : Int) (vL v : Value) (ld : List R3) (l : List (Int × Int)) (w : World) (hL : Runs w vL ld) (h : Spots w v l) (hok : coversOK gW gH gS ld l wd = true) (h400 : gW * gH ≤ 400) (h20 : l.length ≤ 20) :
    Calls Tryd.prog 15 #[.agg #[.int .i64 gW, .int .i64 gH, .int .i64 gS, vL], v, .int .i64 wd] w fun e w' =>
      (∃ v', e = .returned (.tuple #[v', .int .i64 0]) ∧ Runs w' v' (refR (cov gW gH gS wd l) gW.toNat gH.toNat)) ∧ Below w.heap.size w w' := by
  refine (callsIn_wide (n := 5)).1 ?_
  have hmm := @run_makeMap Tryd.prog
  have hok2 := hok
  simp only [coversOK, Bool.and_eq_true] at hok2
  obtain ⟨⟨hg, ht⟩, hw⟩ := hok2
  obtain ⟨iW, iH, iS, -⟩ := checkG_iff hg
  have hlen : (2 : Int) ≤ l.length ∧ (l.length : Int) ≤ 1024 := by
    simp only [checkB, Bool.and_eq_true] at ht
    simpa [withinB] using ht.1.1
  have hchk := fun (w' : World) (hb : Below w.heap.size w w') => check_tk v l w' (h.below hb)
  obtain ⟨A, c, rfl, h1, h2, h3⟩ := h
  unfold maxLen at h2
  obtain ⟨m, hm, hm1, hm2⟩ : ∃ m, l.length = m + 1 ∧ 1 ≤ m ∧ m ≤ 19 := ⟨l.length - 1, by omega, by omega, by omega⟩
  have hup := legsW_upto l m hm
  obtain ⟨b, off, rfl, hbl, hcc⟩ := h3 (by omega)
  have hcells : ∀ k, k ≤ m → w.cell? ⟨b, off + k * 2, none⟩ = some (.int .i64 (l.getD k default).1) ∧ w.cell? ⟨b, off + k * 2 + 1, none⟩ = some (.int .i64 (l.getD k default).2) := fun k hk =>
    hcc k _ (by simp [List.getD, show k < l.length by omega])
  have hbe : Below w.heap.size w ((w.alloc (.cells #[.int .i64 gW, .int .i64 gH, .int .i64 gS, vL] 37)).alloc (.cells #[.int .i64 wd] 3)) :=
    ((Below.refl _ _).alloc (Nat.le_refl _) _).alloc (by simp) _
  have hcg := checkGrid_gr gW gH gS vL ld _ (hL.below hbe)
  rw [hg] at hcg
  have HV := Lib.hid hchk
  have HG := Lib.hid hcg
  have HBE := Lib.hid hbe
  have HCE := Lib.hid hcells
  have HW := Lib.hid hw
  have HT := Lib.hid (checkV_true ht)
  have HU := Lib.hid hup
  have HM := Lib.hid hm
  have HL := Lib.hid hL
  have HK := Lib.hid hg
  have HI := Lib.hid (And.intro iW (And.intro iH (And.intro iS h400)))
  clear hchk h3 hcg hL hok hg ht hw hup hcc hcells hm hlen h20 hbe iW iH iS h400
  refine callsIn_of_wp_marks Tryd.func15 rfl trivial ?_ rfl
  simp only [Tryd.ntmps15, List.size_toArray, List.length_cons, List.length_nil, Nat.reduceAdd, Nat.reduceSub, Array.replicate_succ, Array.replicate_zero, List.push_toArray, List.append_toArray, List.nil_append, List.cons_append]
  refine wpIn_wide.2 ?_
  go_wp2_with fail
  refine HG.out.mono ?_
  rintro e w1 ⟨rfl, hb⟩
  have c0 := hb.cell (p := ⟨w.heap.size, 0, none⟩) (by simp <;> omega)
  have c1 := hb.cell (p := ⟨w.heap.size, 1, none⟩) (by simp <;> omega)
  have c2 := hb.cell (p := ⟨w.heap.size, 2, none⟩) (by simp <;> omega)
  have c3 := hb.cell (p := ⟨w.heap.size, 3, none⟩) (by simp <;> omega)
  have c5 := hb.cell (p := ⟨w.heap.size + 1, 0, none⟩) (by simp)
  simp [go_sem] at c0 c1 c2 c3 c5
  have hbb : Below w.heap.size w w1 := HBE.out.trans (hb.mono (by simp <;> omega))
  have hz := hb.size
  simp at hz
  clear hb
  rw [argE_true]
  go_wp2_with fail
  refine (HV.out _ hbb).mono ?_
  rintro e w2 ⟨rfl, hb⟩
  have c0 := (hb.cell (p := ⟨w.heap.size, 0, none⟩) (by show w.heap.size < w1.heap.size; omega)).trans c0
  have c1 := (hb.cell (p := ⟨w.heap.size, 1, none⟩) (by show w.heap.size < w1.heap.size; omega)).trans c1
  have c2 := (hb.cell (p := ⟨w.heap.size, 2, none⟩) (by show w.heap.size < w1.heap.size; omega)).trans c2
  have c3 := (hb.cell (p := ⟨w.heap.size, 3, none⟩) (by show w.heap.size < w1.heap.size; omega)).trans c3
  have c5 := (hb.cell (p := ⟨w.heap.size + 1, 0, none⟩) (by show w.heap.size + 1 < w1.heap.size; omega)).trans c5
  have hbb := hbb.trans (hb.mono (by omega))
  have hz := Nat.le_trans hz hb.size
  clear hb
  rw [HT.out]
  go_wp2_with fail
  refine (within_tk _ _ _ _).mono ?_
  rintro e w' ⟨rfl, rfl⟩
  rw [HW.out]
  go_wp2_with fail
  have hS0 := SetT.made w2
  have F1 : CvF w ((w2.alloc (.map #[] 0)).alloc (.cells #[.map (some w2.heap.size)] 80)) w.heap.size w2.heap.size gW gH gS vL wd :=
    ⟨cell_alloc_l _ (cell_alloc_l _ c0), cell_alloc_l _ (cell_alloc_l _ c1), cell_alloc_l _ (cell_alloc_l _ c2), cell_alloc_l _ (cell_alloc_l _ c3), cell_alloc_l _ (cell_alloc_l _ c5), by simp [go_sem], (hbb.alloc (by omega) _).alloc (by simp; omega) _, Nat.le_refl _, by simp, by omega⟩
  have hS1 := hS0.kept (World.grownBy_alloc (w2.alloc (.map #[] 0)) (.cells #[.map (some w2.heap.size)] 80) none) (by simp)
  have hz3 : ((w2.alloc (.map #[] 0)).alloc (.cells #[.map (some w2.heap.size)] 80)).heap.size = w2.heap.size + 1 + 1 := by simp
  clear c0 c1 c2 c3 c5 hS0 hmm hbb
  refine (legs_tk _ _ _ _).mono ?_
  rintro e w3 ⟨rfl, rfl⟩
  go_wp2_with fail
  obtain ⟨W1, hW1⟩ : ∃ W1, (w2.alloc (.map #[] 0)).alloc (.cells #[.map (some w2.heap.size)] 80) = W1 := ⟨_, rfl⟩
  rw [hW1] at F1 hS1 hz3 ⊢
  clear hW1
  obtain ⟨M, hMe⟩ : ∃ M, w2.heap.size = M := ⟨_, rfl⟩
  rw [hMe] at F1 hS1 hz3 hz ⊢
  clear hMe
  rw [HM.out]
  have q2 : (W1.alloc (.cells #[.slice (some ⟨b, off, none⟩) (m + 1) c] 27)).cell? ⟨M + 1 + 1, 0, none⟩ = some (.slice (some ⟨b, off, none⟩) (m + 1) c) := by rw [← hz3]; exact (cell_new_l W1 _ _).1
  have F2 := F1.but ((But.refl M W1).alloc (.cells #[.slice (some ⟨b, off, none⟩) (m + 1) c] 27))
  have hS2 := hS1.kept (World.grownBy_alloc W1 (.cells #[.slice (some ⟨b, off, none⟩) (m + 1) c] 27) none) (by simp)
  have hz4 : (W1.alloc (.cells #[.slice (some ⟨b, off, none⟩) (m + 1) c] 27)).heap.size = M + 1 + 1 + 1 := by simp [hz3]
  obtain ⟨W0, hW0⟩ : ∃ W0, W1.alloc (.cells #[.slice (some ⟨b, off, none⟩) (m + 1) c] 27) = W0 := ⟨_, rfl⟩
  rw [hW0] at q2 F2 hS2 hz4 ⊢
  clear hW0 F1 hS1 hz3
  obtain ⟨B, hB⟩ : ∃ B, w.heap.size = B := ⟨_, rfl⟩
  rw [hB] at F2 hz hbl ⊢
  have HF2 := Lib.hid F2
  have HS2 := Lib.hid hS2
  clear F2 hS2
  refine (wpIn_wide (n := 5)).1 ?_
  refine wpIn_rangeFunc_box (d := 9) rfl (by omega) (gf := 42) (lb := #[.pointer (some ⟨M + 1 + 1, 0, none⟩)]) rfl trivial (enters_of Tryd.func42 (by kernel_rfl) rfl)
    (legs_stops 4 (by omega) (M + 1 + 1) b off m c (fun q => q = b ∨ q = M + 1 + 1) (.inl rfl) (.inr rfl) (fun i => l.getD i default) hm1 (by have := HM.out; omega) (by omega) W0 (fun q hq => by rcases hq with rfl | rfl <;> omega) q2
      (fun k hk => ⟨(HF2.out.hb.cell (p := ⟨b, off + k * 2, none⟩) hbl).trans (HCE.out k hk).1, (HF2.out.hb.cell (p := ⟨b, off + k * 2 + 1, none⟩) hbl).trans (HCE.out k hk).2⟩))
    (fun h k => KeepB.trans h k) (fun W l' o o' hl _ _ _ => KeepB.putObj (n := W0.heap.size) (fun q hq => by rcases hq with rfl | rfl <;> omega) W l' o' hl) (Below.refl _ _)
    (fun pre W => (∃ N, SetT W M N (fun p q => pre.any fun z => covL gW gH gS wd z p q) ∧ N ≤ 400 * pre.length) ∧ CvF w W B M gW gH gS vL wd ∧ W0.heap.size ≤ W.heap.size)
    (fun _ _ _ => False)
    (fun s X Y row hs hg hr => by
      obtain ⟨⟨N, hN, hl⟩, hF, hz⟩ := hs
      exact ⟨⟨N, hN.kept hg (fun e => by have := (hr M e.symm).1; omega), hl⟩, hF.own (n := W0.heap.size) (by omega) hg hr, Nat.le_trans hz hg.size⟩)
    (fun _ _ _ _ _ hs _ _ => hs)
    ⟨⟨0, HS2.out.ext (fun p q => by simp), by simp⟩, HF2.out, Nat.le_refl _⟩
    (fun z => #[.int .i64 z.fx, .int .i64 z.fy, .int .i64 z.wx, .int .i64 z.wy, .int .i64 z.far]) 68
    ?assign (fun pre W h => h.2.2) ?body ?done ?stop
  case assign =>
    rintro l' pre z W K ⟨⟨N, hN, hl⟩, hF, hzW⟩ hK
    obtain ⟨fx, fy, wx, wy, far⟩ := z
    have hbt : But M W (W.alloc (.cells #[.int .i64 fx, .int .i64 fy, .int .i64 wx, .int .i64 wy, .int .i64 far] 68)) := (But.refl M W).alloc _
    have hK' := hK _ (hbt.keepsFrom (by omega)) (hbt.keepB (fun q hq => by rcases hq with rfl | rfl <;> omega)) ⟨⟨N, hN.kept (World.grownBy_alloc W _ none) (by simp), hl⟩, hF.but hbt, Nat.le_trans hzW hbt.size⟩ rfl
    simp only [encLeg, List.setIfInBounds_toArray, List.set_cons_succ, List.set_cons_zero] at hK' ⊢
    have HK := Lib.hid hK'
    clear hK hK'
    gi_wp2
    exact HK.out
  case body =>
    rintro l' pre z Bx W hl ⟨r, hr⟩ ⟨⟨N, hN, hNl⟩, hF, hzW⟩ hBx hbx hlt
    obtain ⟨fx, fy, wx, wy, far⟩ := z
    simp only [encLeg, List.setIfInBounds_toArray, List.set_cons_succ, List.set_cons_zero]
    have x0 : W.cell? ⟨Bx, 0, none⟩ = some (.int .i64 fx) := by simp [World.cell?, hbx]
    have x1 : W.cell? ⟨Bx, 1, none⟩ = some (.int .i64 fy) := by simp [World.cell?, hbx]
    have x2 : W.cell? ⟨Bx, 2, none⟩ = some (.int .i64 wx) := by simp [World.cell?, hbx]
    have x3 : W.cell? ⟨Bx, 3, none⟩ = some (.int .i64 wy) := by simp [World.cell?, hbx]
    have x4 : W.cell? ⟨Bx, 4, none⟩ = some (.int .i64 far) := by simp [World.cell?, hbx]
    have hBxl : Bx < W.heap.size := (Array.getElem?_eq_some_iff.1 hbx).1
    gi_wp2_with fail
    refine ⟨trivial, (CallsIn.inRound l' (callsIn_wide.2 (shifted_tk _ _ _ _ _ _))).mono ?_⟩
    rintro e w4 ⟨rfl, hb⟩
    gi_wp2_with fail
    obtain ⟨ex, hex⟩ : ∃ ex, shW fx wx far = ex := ⟨_, rfl⟩
    obtain ⟨ey, hey⟩ : ∃ ey, shW fy wy far = ey := ⟨_, rfl⟩
    rw [hex, hey]
    have hMW : M < W.heap.size := by omega
    have hbt : But M W (w4.alloc (.cells #[.int .i64 ex, .int .i64 ey] 23)) := (But.of_below hb).alloc _
    have hS5 := (hN.below hb hMW).kept (World.grownBy_alloc w4 (.cells #[.int .i64 ex, .int .i64 ey] 23) none) (by simp)
    have hE0 : (w4.alloc (.cells #[.int .i64 ex, .int .i64 ey] 23)).cell? ⟨w4.heap.size, 0, none⟩ = some (.int .i64 ex) := by simp [go_sem]
    have hE1 : (w4.alloc (.cells #[.int .i64 ex, .int .i64 ey] 23)).cell? ⟨w4.heap.size, 1, none⟩ = some (.int .i64 ey) := by simp [go_sem]
    have hEl : w4.heap.size < (w4.alloc (.cells #[.int .i64 ex, .int .i64 ey] 23)).heap.size := by simp
    have hEM : M < w4.heap.size := by have := hb.size; omega
    obtain ⟨E, hEe⟩ : ∃ E, w4.heap.size = E := ⟨_, rfl⟩
    obtain ⟨w5, hw5⟩ : ∃ w5, w4.alloc (.cells #[.int .i64 ex, .int .i64 ey] 23) = w5 := ⟨_, rfl⟩
    rw [hw5] at hbt hS5 hE0 hE1 hEl ⊢
    rw [hEe] at hE0 hE1 hEl hEM ⊢
    clear hw5 hEe
    have x0 := (hbt.cell (p := ⟨Bx, 0, none⟩) hBxl (by show Bx ≠ M; omega)).trans x0
    have x1 := (hbt.cell (p := ⟨Bx, 1, none⟩) hBxl (by show Bx ≠ M; omega)).trans x1
    have x2 := (hbt.cell (p := ⟨Bx, 2, none⟩) hBxl (by show Bx ≠ M; omega)).trans x2
    have x3 := (hbt.cell (p := ⟨Bx, 3, none⟩) hBxl (by show Bx ≠ M; omega)).trans x3
    have x4 := (hbt.cell (p := ⟨Bx, 4, none⟩) hBxl (by show Bx ≠ M; omega)).trans x4
    have hF5 := hF.but hbt
    obtain ⟨c0, c1, c2, c3, c5, cm, -, -, -, -⟩ := (id hF5 : CvF w w5 B M gW gH gS vL wd)
    have HF := Lib.hid hF
    have HN := Lib.hid hN
    have HXC := Lib.hid hbx
    have HX := Lib.hid (And.intro hex hey)
    clear hF hN hex hey hb q2
    refine wpIn_region_quiet_round l' rfl (by kernel_rfl) (by kernel_rfl) (by kernel_rfl) ?_
    repeat (gi_big_quiet_step (fail))
    refine wpQuietIn_nil ?_
    rintro _ ⟨nq, rfl⟩
    obtain ⟨a1, ha1⟩ : ∃ a1, wrap64 (min fx ex - wd) = a1 := ⟨_, rfl⟩
    obtain ⟨e1, he1⟩ : ∃ e1, wrap64 (max fx ex + wd) = e1 := ⟨_, rfl⟩
    rw [ha1, he1]
    have HA1 := Lib.hid (And.intro ha1 he1)
    clear ha1 he1 c0 c1 c2 c3 c5 cm x0 x2 x3 x4
    have hbt := hbt.drewN nq
    have hS5 : SetT (w5.drewN nq) M N (fun p q => pre.any fun z => covL gW gH gS wd z p q) := hS5
    have hF5 : CvF w (w5.drewN nq) B M gW gH gS vL wd := hF5.but ((But.refl M w5).drewN nq)
    have hE1 : (w5.drewN nq).cell? ⟨E, 1, none⟩ = some (.int .i64 ey) := hE1
    have x1 : (w5.drewN nq).cell? ⟨Bx, 1, none⟩ = some (.int .i64 fy) := x1
    have hEl : E < (w5.drewN nq).heap.size := hEl
    clear hE0
    generalize w5.drewN nq = w6 at hbt hS5 hF5 hE1 x1 hEl ⊢
    obtain ⟨c0, c1, c2, c3, c5, cm, -, -, -, -⟩ := (id hF5 : CvF w w6 B M gW gH gS vL wd)
    gi_wp2_with fail
    refine wpIn_region_quiet_round l' rfl (by kernel_rfl) (by kernel_rfl) (by kernel_rfl) ?_
    repeat (gi_big_quiet_step (fail))
    refine wpQuietIn_nil ?_
    rintro _ ⟨nq2, rfl⟩
    obtain ⟨a2, ha2⟩ : ∃ a2, wrap64 (min fy ey - wd) = a2 := ⟨_, rfl⟩
    obtain ⟨e2, he2⟩ : ∃ e2, wrap64 (max fy ey + wd) = e2 := ⟨_, rfl⟩
    rw [ha2, he2]
    have HA2 := Lib.hid (And.intro ha2 he2)
    clear ha2 he2 c0 c1 c2 c3 c5 cm x1 hE1
    have hbt := hbt.drewN nq2
    have hS5 : SetT (w6.drewN nq2) M N (fun p q => pre.any fun z => covL gW gH gS wd z p q) := hS5
    have hF5 : CvF w (w6.drewN nq2) B M gW gH gS vL wd := hF5.but ((But.refl M w6).drewN nq2)
    have hEl : E < (w6.drewN nq2).heap.size := hEl
    generalize w6.drewN nq2 = w7 at hbt hS5 hF5 hEl ⊢
    obtain ⟨c0, c1, c2, c3, c5, cm, -, -, -, -⟩ := (id hF5 : CvF w w7 B M gW gH gS vL wd)
    have iS : ¬ gS = 0 := by have := HI.out.2.2.1; omega
    gi_wp2_with fail
    rw [tdiv_i64 (a := a1) (by rw [← HA1.out.1]; exact wrap_i64 _) HI.out.2.2.1.1]
    obtain ⟨p1, hp1⟩ : ∃ p1, max 0 (wrap64 (a1.tdiv gS - 1)) = p1 := ⟨_, rfl⟩
    obtain ⟨q1, hq1⟩ : ∃ q1, min (wrap64 (gW - 1)) (wrap64 (e1.tdiv gS + 1)) = q1 := ⟨_, rfl⟩
    obtain ⟨p2, hp2⟩ : ∃ p2, max 0 (wrap64 (a2.tdiv gS - 1)) = p2 := ⟨_, rfl⟩
    obtain ⟨q2, hq2⟩ : ∃ q2, min (wrap64 (gH - 1)) (wrap64 (e2.tdiv gS + 1)) = q2 := ⟨_, rfl⟩
    rw [hp1]
    have HCV := Lib.hid (fun p q => covL_named HX.out.1 HX.out.2 HA1.out.1 HA1.out.2 HA2.out.1 HA2.out.2 hp1 hq1 hp2 hq2 (p := p) (q := q) (wd := wd))
    have bp1 : 0 ≤ p1 ∧ p1 ≤ 9223372036854775807 := by have := wrap_i64 (a1.tdiv gS - 1); unfold i64 at this; omega
    have bp2 : 0 ≤ p2 ∧ p2 ≤ 9223372036854775807 := by have := wrap_i64 (a2.tdiv gS - 1); unfold i64 at this; omega
    have bq1 : q1 < gW := by have := HI.out.1; have := wrapId (gW - 1) (by omega) (by omega); omega
    have bq2 : q2 < gH := by have := HI.out.2.1; have := wrapId (gH - 1) (by omega) (by omega); omega
    have bW : gW ≤ 256 ∧ gH ≤ 256 := by have := HI.out; omega
    have HP1 := Lib.hid hp1
    have HQ1 := Lib.hid hq1
    have HP2 := Lib.hid hp2
    have HQ2 := Lib.hid hq2
    clear hp1 hq1 hp2 hq2 c0 c1 c2 c3 c5 cm hF5
    obtain ⟨Sp, hSp⟩ : ∃ Sp : Int → Int → Bool, (fun p q => pre.any fun z => covL gW gH gS wd z p q) = Sp := ⟨_, rfl⟩
    rw [hSp] at hS5
    obtain ⟨Sz, hSz⟩ : ∃ Sz : Int → Int → Bool, (fun p q => covL gW gH gS wd { fx, fy, wx, wy, far } p q) = Sz := ⟨_, rfl⟩
    have HCV2 := Lib.hid (fun p q => (congrFun (congrFun hSz p) q).symm.trans (HCV.out p q))
    have HSP := Lib.hid hSp
    have HSZ := Lib.hid hSz
    clear hSp hSz
    generalize wrap64 (a1.tdiv gS - 1) = v1
    generalize a1.tdiv gS = v2
    obtain ⟨nh, hnh⟩ : ∃ nh, gH.toNat = nh := ⟨_, rfl⟩
    have HNH := Lib.hid hnh
    clear hnh
    gi_loopw [15] (fun i wr => ∃ x : Int, i = .int .i64 x ∧ p1 ≤ x ∧ x ≤ 9223372036854775807 ∧ (p1 < x → x ≤ q1 + 1) ∧ (∃ N', SetT wr M N' (fun p q => Sp p q || (Sz p q && decide (p < x))) ∧ N' ≤ N + (x - p1).toNat * nh) ∧ But M W wr) (fun i _ => (256 - intOf i).toNat)
    case atStart =>
      refine ⟨p1, rfl, Int.le_refl _, bp1.2, fun h => by omega, ⟨N, hS5.ext (fun p q => ?_), by omega⟩, hbt⟩
      rw [HCV2.out p q]
      by_cases e : p < p1
      · have : ¬ p1 ≤ p := by omega
        simp [this]
      · simp [e]
    case round =>
      obtain ⟨x, rfl, hx1, hx3, hx2, ⟨N', hS', hN'⟩, hbr⟩ := hrel
      clear hS5 hbt hEl
      obtain ⟨c0, c1, c2, c3, c5, cm, -, -, -, -⟩ := (HF.out.but hbr : CvF w wr B M gW gH gS vL wd)
      gi_wp2_with fail
      refine wpIn_region_quiet_round l' rfl (by kernel_rfl) (by kernel_rfl) (by kernel_rfl) ?_
      repeat (gi_big_quiet_step (fail))
      refine wpQuietIn_nil ?_
      rintro _ ⟨nq3, rfl⟩
      rw [tdiv_i64 (a := e1) (by rw [← HA1.out.2]; exact wrap_i64 _) HI.out.2.2.1.1, HQ1.out]
      clear c0 c1 c2 c3 c5 cm
      have hbr := hbr.drewN nq3
      have hS' : SetT (wr.drewN nq3) M N' (fun p q => Sp p q || (Sz p q && decide (p < x))) := hS'
      generalize wr.drewN nq3 = wr at hbr hS' ⊢
      by_cases hlx : x ≤ q1
      · obtain ⟨c0, c1, c2, c3, c5, cm, -, -, -, -⟩ := (HF.out.but hbr : CvF w wr B M gW gH gS vL wd)
        gi_wp2_with fail
        rw [tdiv_i64 (a := a2) (by rw [← HA2.out.1]; exact wrap_i64 _) HI.out.2.2.1.1, HP2.out]
        clear c0 c1 c2 c3 c5 cm
        generalize wrap64 (a2.tdiv gS - 1) = v3
        generalize a2.tdiv gS = v4
        generalize wrap64 (e1.tdiv gS + 1) = v5
        generalize e1.tdiv gS = v6
        generalize wrap64 (gW - 1) = v7
        generalize decide (x ≤ q1) = v8
        gi_loopw [16] (fun i wq => ∃ y : Int, i = .int .i64 y ∧ p2 ≤ y ∧ y ≤ 9223372036854775807 ∧ (p2 < y → y ≤ q2 + 1) ∧ (∃ N2, SetT wq M N2 (fun p q => (Sp p q || (Sz p q && decide (p < x))) || (Sz p q && (decide (p = x) && decide (q < y)))) ∧ N2 ≤ N' + (y - p2).toNat) ∧ But M W wq) (fun i _ => (256 - intOf i).toNat)
        case atStart =>
          refine ⟨p2, rfl, Int.le_refl _, bp2.2, fun h => by omega, ⟨N', hS'.ext (fun p q => ?_), by omega⟩, hbr⟩
          rw [HCV2.out p q]
          by_cases e : q < p2
          · have : ¬ p2 ≤ q := by omega
            simp [this]
          · simp [e]
        case round =>
          obtain ⟨y, rfl, hy1, hy3, hy2, ⟨N2, hS2, hN2⟩, hbq⟩ := hrel
          clear hS' hbr
          obtain ⟨c0, c1, c2, c3, c5, cm, -, -, -, -⟩ := (HF.out.but hbq : CvF w wr B M gW gH gS vL wd)
          gi_wp2_with fail
          refine wpIn_region_quiet_round l' rfl (by kernel_rfl) (by kernel_rfl) (by kernel_rfl) ?_
          repeat (gi_big_quiet_step (fail))
          refine wpQuietIn_nil ?_
          rintro _ ⟨nq4, rfl⟩
          rw [tdiv_i64 (a := e2) (by rw [← HA2.out.2]; exact wrap_i64 _) HI.out.2.2.1.1, HQ2.out]
          clear c0 c1 c2 c3 c5 cm
          have hbq := hbq.drewN nq4
          have hS2 : SetT (wr.drewN nq4) M N2 (fun p q => (Sp p q || (Sz p q && decide (p < x))) || (Sz p q && (decide (p = x) && decide (q < y)))) := hS2
          generalize wr.drewN nq4 = wq at hbq hS2 ⊢
          have hnh : nh ≤ 256 := by have := HNH.out; omega
          have hprod : (x - p1).toNat * nh ≤ 65536 := Nat.mul_le_mul (show (x - p1).toNat ≤ 256 by omega) hnh
          by_cases hly : y ≤ q2
          · have hyr : 0 ≤ y ∧ y ≤ 255 := by omega
            have hxr : 0 ≤ x ∧ x ≤ 255 := by omega
            have hNm : N2 < maxLen := by unfold maxLen; omega
            obtain ⟨u, hu⟩ : ∃ u, ((Sp x y || (Sz x y && decide (x < x))) || (Sz x y && (decide (x = x) && decide (y < y)))) = u := ⟨_, rfl⟩
            have huS : Sp x y = u := by rw [← hu]; simp
            have hcv : Sz x y = covA { fx, fy, wx, wy, far } gS wd x y := by
              rw [HCV2.out x y]
              simp [hx1, hlx, hy1, hly]
            have hnext : ∀ p q, (p ≠ x ∨ q ≠ y) → ((Sp p q || (Sz p q && decide (p < x))) || (Sz p q && (decide (p = x) && decide (q < y)))) = ((Sp p q || (Sz p q && decide (p < x))) || (Sz p q && (decide (p = x) && decide (q < y + 1)))) := fun p q h => by
              by_cases e : p = x
              · have : decide (q < y) = decide (q < y + 1) := by
                  rw [decide_eq_decide]
                  rcases h with h | h <;> omega
                rw [this]
              · simp [e]
            have ix : isI64 x := ⟨by omega, by omega⟩
            have iy : isI64 y := ⟨by omega, by omega⟩
            have HU2 := Lib.hid hu
            have HUS := Lib.hid huS
            have HCVA := Lib.hid hcv
            have HNX := Lib.hid hnext
            have hzB : B < wq.heap.size := by have := (HF.out.but hbq).hz; have := HF.out.hM; omega
            have hzB1 : B + 1 < wq.heap.size := by have := (HF.out.but hbq).hz; have := HF.out.hM; omega
            have hzM : M + 1 < wq.heap.size := (HF.out.but hbq).hz
            have hzX : Bx < wq.heap.size := Nat.lt_of_lt_of_le hBxl hbq.size
            obtain ⟨c0, c1, c2, c3, c5, cm, -, -, -, -⟩ := (HF.out.but hbq : CvF w wq B M gW gH gS vL wd)
            have hXb := (hbq.block Bx hBxl (by omega)).trans HXC.out
            have x0 : wq.cell? ⟨Bx, 0, none⟩ = some (.int .i64 fx) := by simp [World.cell?, hXb]
            have x1 : wq.cell? ⟨Bx, 1, none⟩ = some (.int .i64 fy) := by simp [World.cell?, hXb]
            have x2 : wq.cell? ⟨Bx, 2, none⟩ = some (.int .i64 wx) := by simp [World.cell?, hXb]
            have x3 : wq.cell? ⟨Bx, 3, none⟩ = some (.int .i64 wy) := by simp [World.cell?, hXb]
            have x4 : wq.cell? ⟨Bx, 4, none⟩ = some (.int .i64 far) := by simp [World.cell?, hXb]
            clear hXb hu huS hcv hnext
            have hSA := hS2.kept (World.grownBy_alloc wq (.cells #[.int .i64 x, .int .i64 y] 77) none) (by simp)
            have hbA := hbq.alloc (.cells #[.int .i64 x, .int .i64 y] 77)
            cases u with
            | true =>
              gi_wp2_with (gi_at_lookup; refine wpListIn_lookup_setT _ rfl _ _ _ rfl map129 M N2 _ rfl hSA x y true HU2.out rfl ix iy ?_)
              refine ⟨trivial, ?_⟩
              gi_wp2_with fail
              go_roundw
              case rel =>
                refine ⟨y + 1, by go_num, by omega, by omega, fun _ => by omega, ⟨N2, hSA.ext (fun p q => ?_), by omega⟩, hbA⟩
                by_cases e : p = x ∧ q = y
                · rw [e.1, e.2, HUS.out]
                  simp
                · exact HNX.out p q (by omega)
              case measure => simp [intOf]; omega
            | false =>
              gi_wp2_with (gi_at_lookup; refine wpListIn_lookup_setT _ rfl _ _ _ rfl map129 M N2 _ rfl hSA x y false HU2.out rfl ix iy ?_)
              refine ⟨trivial, (CallsIn.inRound l' (callsIn_wide.2 (covers_tk { fx, fy, wx, wy, far } gW gH gS x y wd vL _))).mono ?_⟩
              rintro e w9 ⟨rfl, hb9⟩
              have hS9 := hSA.below hb9 (by simp; omega)
              have hb9' := hbA.trans (But.of_below hb9)
              have y0 : w9.cell? ⟨wq.heap.size, 0, none⟩ = some (.int .i64 x) := (hb9.cell (p := ⟨wq.heap.size, 0, none⟩) (by simp)).trans (by simp [go_sem])
              have y1 : w9.cell? ⟨wq.heap.size, 1, none⟩ = some (.int .i64 y) := (hb9.cell (p := ⟨wq.heap.size, 1, none⟩) (by simp)).trans (by simp [go_sem])
              have cm9 := (HF.out.but hb9' : CvF w w9 B M gW gH gS vL wd).cm
              rw [← HCVA.out]
              clear hS2 hSA hbA hbq hb9 c0 c1 c2 c3 c5 cm x0 x1 x2 x3 x4
              obtain ⟨cv, hcv⟩ : ∃ cv, Sz x y = cv := ⟨_, rfl⟩
              rw [hcv]
              have HC := Lib.hid hcv
              clear hcv
              cases cv with
              | false =>
                gi_wp2_with fail
                go_roundw
                case rel =>
                  refine ⟨y + 1, by go_num, by omega, by omega, fun _ => by omega, ⟨N2, hS9.ext (fun p q => ?_), by omega⟩, hb9'⟩
                  by_cases e : p = x ∧ q = y
                  · rw [e.1, e.2, HC.out]
                    simp
                  · exact HNX.out p q (by omega)
                case measure => simp [intOf]; omega
              | true =>
                gi_wp2_with (gi_at_mapUpdate; refine wpListIn_update_setT _ rfl _ _ _ _ rfl map129 M N2 _ rfl hS9 hNm x y rfl rfl ix iy ?_; intro w10 hS10 hg10)
                go_roundw
                case rel =>
                  refine ⟨y + 1, by go_num, by omega, by omega, fun _ => by omega, ⟨N2 + 1, hS10.ext (fun p q => ?_), by omega⟩, hb9'.trans (But.of_grown hg10)⟩
                  by_cases e : p = x ∧ q = y
                  · have hy' : y < y + 1 := by omega
                    rw [if_pos e, e.1, e.2, HC.out]
                    simp [hy']
                  · rw [if_neg e]
                    exact HNX.out p q (by omega)
                case measure => simp [intOf]; omega
          · gi_wp2_with fail
            go_roundw
            case rel =>
              refine ⟨x + 1, by go_num, by omega, by omega, fun _ => by omega, ⟨N2, hS2.ext (fun p q => ?_), ?_⟩, hbq⟩
              · cases hs : Sz p q with
                | false => simp
                | true =>
                  have h := HCV2.out p q
                  rw [hs] at h
                  have h := h.symm
                  simp only [Bool.and_eq_true, decide_eq_true_eq] at h
                  have hq : q < y := by omega
                  simp only [hq, decide_true, Bool.true_and, Bool.and_true, Bool.or_assoc]
                  congr 1
                  rw [Bool.eq_iff_iff]
                  simp only [Bool.or_eq_true, decide_eq_true_eq]
                  omega
              · have e1 : (x + 1 - p1).toNat = (x - p1).toNat + 1 := by omega
                have e2 : (y - p2).toNat ≤ nh := by have := HNH.out; omega
                rw [e1, Nat.succ_mul]
                omega
            case measure => simp [intOf]; omega
      · gi_wp2_with fail
        refine ⟨hbr.keepsFrom (by omega), hbr.keepB (fun q hq => by rcases hq with rfl | rfl <;> omega), ⟨N', hS'.ext (fun p q => ?_), ?_⟩, HF.out.but hbr, by have := hbr.size; omega⟩
        · rw [List.any_append, List.any_cons, List.any_nil, Bool.or_false, ← congrFun (congrFun HSP.out p) q, ← congrFun (congrFun HSZ.out p) q]
          congr 1
          have h : covL gW gH gS wd { fx, fy, wx, wy, far } p q = Sz p q := congrFun (congrFun HSZ.out p) q
          rw [h]
          cases hs : Sz p q with
          | false => rfl
          | true =>
            have h := HCV2.out p q
            rw [hs] at h
            have h := h.symm
            simp only [Bool.and_eq_true, decide_eq_true_eq] at h
            have : p < x := by omega
            simp [this]
        · have hI := HI.out
          have e0 : (x - p1).toNat ≤ gW.toNat := by omega
          have e1 : (x - p1).toNat * nh ≤ gW.toNat * nh := Nat.mul_le_mul_right _ e0
          have e2 : gW.toNat * nh ≤ 400 := by
            have : ((gW.toNat * nh : Nat) : Int) ≤ 400 := by
              rw [Int.natCast_mul, ← HNH.out, Int.toNat_of_nonneg (by omega), Int.toNat_of_nonneg (by omega)]
              exact hI.2.2.2
            omega
          rw [List.length_append, List.length_singleton]
          omega
  case done =>
    rintro D ys W hD rfl ⟨⟨N, hN, hNl⟩, hF, hzW⟩ hK
    rw [uptoL_length] at hNl
    obtain ⟨Dm, hown, hSD⟩ := hN
    have HSD := Lib.hid hSD
    have HF := Lib.hid hF
    obtain ⟨c0, c1, c2, c3, c5, cm, hbW, hBw, hzM, hBM⟩ := hF
    have hDl : D < W.heap.size := (Array.getElem?_eq_some_iff.1 hK).1
    clear hSD c5
    go_wp2_with (at_range; refine wpList_range_own _ rfl _ _ rfl 77 4 lawC map129 (plainElem Tryd.prog 4) M N Dm rfl hown ?_; intro w5 hrg hg5 hs5)
    go_frame
    obtain ⟨R, hR⟩ : ∃ R, W.heap.size = R := ⟨_, rfl⟩
    rw [hR] at hrg hs5 hDl ⊢
    have hF5 := HF.out.grown hg5 (fun r e => by cases e)
    have hK5 := (hg5.block D (by rw [hR]; exact hDl) (by simp)).trans hK
    have hzR : M + 1 < R := by rw [← hR]; exact hzM
    clear hg5 hown c0 c1 c2 c3 cm hbW hK hzW hR
    have hin : ∀ p q : Int, ((uptoL (fun i => l.getD i default) m).any fun z => covL gW gH gS wd z p q) = true → (0 ≤ p ∧ p < gW) ∧ 0 ≤ q ∧ q < gH := fun p q h => by
      rw [List.any_eq_true] at h
      obtain ⟨z, -, hz⟩ := h
      exact covL_in HI.out.1 HI.out.2.1 hz
    have HIn := Lib.hid hin
    clear hin
    have hN6 : N ≤ 65536 := by omega
    go_loopw [18] (fun o wr => ∃ (L : List (Int × Int)) (left : Lit → Bool) (cnt : Nat), wr.ranges Tryd.prog 77 (plainElem Tryd.prog 4) M R N Dm left cnt ∧ LeftT Dm L left ∧ (∀ c, c ∈ L → (isI64 c.1 ∧ isI64 c.2) ∧ Maps.has Dm (cellK c.1 c.2) = true) ∧ L.length + cnt ≤ N ∧ wr.ownsRow (R + 1) 77 2 o L.length (flatE encC L) ∧ CvF w wr B M gW gH gS vL wd ∧ wr.heap[D]? = some (.deferred (some [])) ∧ R + 1 ≤ wr.heap.size) (fun _ wr => wr.rangeLeft M R)
    case atStart => exact ⟨[], _, _, hrg, LeftT.start Dm, by simp, by have := hrg.owns.size_le; simp; omega, World.ownsRow_nil _ _ _ _, hF5, hK5, by omega⟩
    case round =>
      obtain ⟨L, left, cnt, hrg, hleft, hmem, hlen, hown, hF, hK, hz⟩ := hrel
      have hzM2 : M + 1 < wr.heap.size := hF.hz
      go_wp2_with (at_next; refine wpList_next_cells _ rfl _ rfl M R N Dm left cnt rfl hrg ?_ ?_)
      · intro hc0 hl0
        have hLin : ∀ c, c ∈ L → (0 ≤ c.1 ∧ c.1 < gW) ∧ 0 ≤ c.2 ∧ c.2 < gH := fun c hc => by
          obtain ⟨⟨i1, i2⟩, h⟩ := hmem c hc
          rw [(HSD.out c.1 c.2 i1 i2).2] at h
          exact HIn.out _ _ h
        have hRg := gregion_gr gW gH gS vL u18 ld L wr (HL.out.below (by rw [hB]; exact hF.hb)) (Lst_of_own encC_len hown rfl) HK.out hLin (by omega)
        have HRg := Lib.hid hRg
        have HLin := Lib.hid hLin
        have HLf := Lib.hid hleft
        have HMem := Lib.hid hmem
        have HL0 := Lib.hid hl0
        have HFr := Lib.hid hF
        obtain ⟨c0, c1, c2, c3, c5, cm, -, -, -, -⟩ := hF
        clear hRg hLin hleft hl0 hmem hrg hown c5 cm
        go_wp2_with fail
        refine HRg.out.mono ?_
        rintro e w7 ⟨⟨R', hRR, v', rfl, hv'⟩, hb7⟩
        have hEq : R' = refR (cov gW gH gS wd l) gW.toNat gH.toNat := by
          rw [cells_eq HI.out.1 HI.out.2.1 HLin.out hRR]
          refine refR_congr fun x y h1 h2 h3 h4 => ?_
          have b1 : isI64 x := ⟨by omega, by have := HI.out.1; omega⟩
          have b2 : isI64 y := ⟨by omega, by have := HI.out.2.1; omega⟩
          have e : cov gW gH gS wd l x y = (uptoL (fun i => l.getD i default) m).any fun z => covL gW gH gS wd z x y := by unfold cov; rw [HU.out]
          rw [e]
          cases hc : (uptoL (fun i => l.getD i default) m).any fun z => covL gW gH gS wd z x y with
          | true => simpa using HLf.out.done HSD.out HL0.out b1 b2 hc
          | false =>
            rw [decide_eq_false_iff_not]
            intro hm
            have h5 := (HMem.out _ hm).2
            rw [(HSD.out x y b1 b2).2] at h5
            dsimp only at h5
            rw [hc] at h5
            cases h5
        have hlenR : R'.length ≤ 8192 := by
          rw [hEq]
          have h5 := refR_len (cov gW gH gS wd l) gW.toNat gH.toNat
          have h6 := HI.out
          have h7 : ((gW.toNat * gH.toNat : Nat) : Int) ≤ 400 := by
            rw [Int.natCast_mul, Int.toNat_of_nonneg (by omega), Int.toNat_of_nonneg (by omega)]
            exact h6.2.2.2
          omega
        rw [if_pos hlenR] at hv' ⊢
        subst hEq
        have HV7 := Lib.hid hv'
        have hK7 := (hb7.block D (Array.getElem?_eq_some_iff.1 hK).1).trans hK
        have hb8 := HFr.out.hb.trans (hb7.mono (by omega))
        clear hv' hRR hlenR c0 c1 c2 c3 hb7 hK
        go_wp2_with fail
        refine ⟨by simp, .inl ⟨_, _, rfl, run_takeDeferred hK7, ?_⟩⟩
        refine ⟨.tuple #[v', .int .i64 0], by simp [results, Tryd.results15, go_sem], ⟨v', rfl, ?_⟩, ?_⟩
        · refine HV7.out.keep (by simp) (fun p _ => ?_)
          by_cases hp : p.block = D
          · have hDl7 := (Array.getElem?_eq_some_iff.1 hK7).1
            have h1 : (w7.putObj D (.deferred none)).heap[p.block]? = some (.deferred none) := by rw [hp]; exact World.putObj_heap_same hDl7
            have h2 : w7.heap[p.block]? = some (.deferred (some [])) := by rw [hp]; exact hK7
            simp [World.cell?, h1, h2]
          · exact World.cell?_of_block (World.putObj_heap_other hp)
        · rw [hB]
          exact hb8.trans ((belowK_b (w := w) (Nat.le_refl _) w7 D _ _ (by omega) hK7 rfl rfl).mono (by omega))
      · intro x y u w6 cnt1 hx hy hlx hrg1 hlt1 hg1 hs1 hen
        have hleft1 := hleft.step hx hy
        have hhas : Maps.has Dm (cellK x y) = true := by
          have h := hleft x y hx hy
          rw [hlx] at h
          have h := h.symm
          rw [Bool.and_eq_true] at h
          exact h.1
        have hob : ∀ g, u18.ownBlock = some g → R + 1 ≤ g ∧ g < wr.heap.size := fun g hg => ownBlock_lt hown hg
        have hown1 := hown.kept hg1 (by
          cases hobk : u18.ownBlock with
          | none => exact .inl rfl
          | some g => exact .inr (fun e => by have := (hob g hobk).1; cases e; omega))
        have hF1 := hF.grown hg1 (fun r e => by cases e; omega)
        have hK1 := (hg1.block D (Array.getElem?_eq_some_iff.1 hK).1 (by simp; omega)).trans hK
        obtain ⟨i0, hi, hz0, hz1, hz2⟩ := info_parts infoC
        have hown4 := (hown1.alloc (.cells #[.int .i64 x, .int .i64 y] 77)).alloc (.cells #[.int .i64 x, .int .i64 y] 77)
        have hrg4 := (hrg1.alloc (.cells #[.int .i64 x, .int .i64 y] 77)).alloc (.cells #[.int .i64 x, .int .i64 y] 77)
        have hF4 := (hF1.but ((But.refl M w6).alloc (.cells #[.int .i64 x, .int .i64 y] 77))).but ((But.refl M _).alloc (.cells #[.int .i64 x, .int .i64 y] 77))
        have hK4 := (Below.heap_alloc (w6.alloc (.cells #[.int .i64 x, .int .i64 y] 77)) (.cells #[.int .i64 x, .int .i64 y] 77) D (by have := (Array.getElem?_eq_some_iff.1 hK1).1; simp; omega)).trans ((Below.heap_alloc w6 (.cells #[.int .i64 x, .int .i64 y] 77) D (Array.getElem?_eq_some_iff.1 hK1).1).trans hK1)
        have hBq : R + 1 ≤ ((w6.alloc (.cells #[.int .i64 x, .int .i64 y] 77)).alloc (.cells #[.int .i64 x, .int .i64 y] 77)).heap.size := by simp; omega
        have hL6 : L.length ≤ 65536 := by omega
        have HMem := Lib.hid hmem
        have hm0 := hrg.left_eq
        have HM0 := Lib.hid hm0
        have hzr6 : R + 1 ≤ w6.heap.size := by omega
        clear hmem hm0 hrg hrg1 hF hF1 hK hK1 hown hown1 hleft hg1 hs1
        go_wp2_with (at_builtin; refine wpList_append_lies _ rfl _ _ _ rfl (R + 1) 77 i0 _ 2 16 Tryd.underlying74 hi hz0 hz1 hz2 rfl (by omega) u18 L.length (flatE encC L) rfl hown4 ⟨w6.heap.size + 1, 0, none⟩ 1 1 [.int .i64 x, .int .i64 y] rfl rfl (newsLit (cs := #[.int .i64 x, .int .i64 y]) (by simp)) (by simp [Value.oneCell']) (by omega) (by unfold maxLen; omega) (by omega) hBq (w6.heap.size + 1 + 1) (by simp) ?_; intro gg cap5 w7 hown7 hgrow hat hlt7)
        have hne : ∀ k, k ≤ R → some k ≠ u18.ownBlock := fun k hk e => by have := (hob k e.symm).1; omega
        have hrg7 := hrg4.kept hgrow (hne M (by omega)) (hne R (Nat.le_refl _))
        have hs7 := hgrow.size
        simp only [World.size_alloc] at hs7
        go_roundw
        case rel =>
          refine ⟨L ++ [(x, y)], _, cnt1, hrg7, hleft1, ?_, by simp; omega, by rw [flatE_append, List.length_append]; exact hown7, hF4.grown hgrow (fun r e => by have := (hob r e).1; omega), (hgrow.block D (by simp; omega) (hne D (by omega))).trans hK4, by omega⟩
          intro c hc
          rcases List.mem_append.1 hc with h | h
          · exact HMem.out c h
          · rw [List.mem_singleton] at h
            subst h
            exact ⟨⟨hx, hy⟩, hhas⟩
        case measure => rw [hrg7.left_eq, HM0.out]; exact hlt1
  case stop =>
    rintro D c' pre W hD hk hf hK
    exact hf.elim
end Go.Proofs.YtnbdnnbeiohmgaaDoor
