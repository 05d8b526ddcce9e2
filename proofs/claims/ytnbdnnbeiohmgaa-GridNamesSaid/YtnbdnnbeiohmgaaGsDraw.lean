/- grid.Draw. -/
import Derived.Test.YtnbdnnbeiohmgaaGsPic
import Derived.Deep.OwnRows
namespace Go.Proofs.Ytnbdnnbeiohmgaa
open Go.RowKit Go.Maps Go.Shelf Go.Lib
attribute [local go_sem] Oper.semAt_some

theorem made_at (z : Value) (n i : Nat) (h : i < n) : (madeCells #[z] n)[i]? = some z := by
  rw [← Array.getElem?_toList, toList_madeCells_one]
  simp [h]
theorem infoBs : (Try.prog.info? 147).map (fun i => (i.zero, i.size, i.bytes)) = some (some (.slice none 0 0), 1, 24) := by kernel_rfl
def valsI {H : Nat} (l : List { i : Nat // i < H }) : List Nat := l.map (·.1)
theorem valsI_snoc {H : Nat} (l : List { i : Nat // i < H }) (x : { i : Nat // i < H }) : valsI (l ++ [x]) = valsI l ++ [x.1] := by simp [valsI]
theorem valsI_len {H : Nat} (l : List { i : Nat // i < H }) : (valsI l).length = l.length := by simp [valsI]
theorem flat_len {f : Nat → List UInt8} {m : Nat} (h : ∀ y, (f y).length = m) : ∀ l : List Nat, (l.flatMap f).length = l.length * m
  | [] => by simp
  | x :: l => by
    rw [List.flatMap_cons, List.length_append, h x, flat_len h l, List.length_cons, Nat.add_mul]
    omega
theorem addr_add0 (b j : Nat) : (⟨b, 0, none⟩ : Addr).add j = ⟨b, j, none⟩ := by cases j <;> simp [Addr.add]
section
variable {F : Fence}
/-- a loop over a function that gives two values, the second one moved to a slot -/
theorem wpIn_rangeFunc_pair {n : Nat} {P : Program} {α : Type} {g : Operand} {p1 p2 d : Tmp} {assign body : Code} {Q : Exit → Act → World → Prop} {a : Act} {w : World}
    (hro : F.round = none) (h1 : 1 ≤ n) {gf : Nat} {lb : Array Value} (hg : a.eval g = .func (.func gf) #[] lb) (hFg : F.fn gf) (eg : ∀ args w, (callFunc gf args).run P w = .ok (.enter gf args) w)
    {e1 e2 : α → Value} {Kp : World → World → Prop} {S Sp : List α → Prop} {N : Nat} {w0 : World} (hseq : SeqStopsK F (n - 1) P gf lb (fun x => #[e1 x, e2 x]) Kp S Sp N w0)
    (hKr : ∀ A : World, Kp A A) (hKt : ∀ {A B C : World}, Kp A B → Kp B C → Kp A C) (hKb : ∀ (W : World) (l : Nat) (o o' : Obj), w.heap.size ≤ l → W.heap[l]? = some o → o.isCells = false → o.isWalk = false → Kp W (W.putObj l o')) (hb0 : Below w0.heap.size w0 w)
    (I : List α → World → Prop) (Ix : Code → List α → World → Prop) (hI : OwnFrom w.heap.size I) (hIx : ∀ c, OwnFrom w.heap.size (Ix c)) (h0 : I [] w)
    (hassign : ∀ (l : Nat) (x : α) (W : World) (K : Act → World → Prop), K { tmps := ((a.tmps.setIfInBounds p1 (e1 x)).setIfInBounds p2 (e2 x)).setIfInBounds d (e2 x), defers := [] } W →
      assign.wpIn (F.inRound l) (n - 1 - 1) P (Exit.then K (fun _ _ _ => False)) { tmps := (a.tmps.setIfInBounds p1 (e1 x)).setIfInBounds p2 (e2 x), defers := [] } W)
    (hbody : ∀ (l : Nat) (pre : List α) (x : α) (W : World), w.heap.size ≤ l → (∃ r, W.heap[l]? = some (.loop r)) → I pre W → pre.length < N →
      body.wpIn (F.inRound l) (n - 1 - 1) P (ownPostG w.heap.size Kp I Ix (pre ++ [x]) W) { tmps := ((a.tmps.setIfInBounds p1 (e1 x)).setIfInBounds p2 (e2 x)).setIfInBounds d (e2 x), defers := [] } W)
    (hdone : ∀ (D : Nat) (xs : List α) (W : World), w.heap.size ≤ D → S xs → I xs W → W.heap[D]? = some (.deferred (some [])) → Q .normal { a with defers := { target := .collected D, args := #[] } :: a.defers } W)
    (hstop : ∀ (D : Nat) (c : Code) (pre : List α) (W : World), w.heap.size ≤ D → Sp pre → Ix c pre W → W.heap[D]? = some (.deferred (some [])) → c.wpIn F n P Q { a with defers := { target := .collected D, args := #[] } :: a.defers } W) :
    (Code.rangeFunc g #[p1, p2] assign body).wpIn F n P Q a w := by
  refine wpIn_rangeFunc_ownH (encs := fun x => #[e1 x, e2 x]) hro h1 hg hFg eg hseq hKt hKb hb0 (fun _ => rfl) I Ix hI hIx h0
    (fun x a' _ => a' = { tmps := ((a.tmps.setIfInBounds p1 (e1 x)).setIfInBounds p2 (e2 x)).setIfInBounds d (e2 x), defers := [] })
    (fun x a' _ X Y row hs hg hr => hs) ?_ ?_ hdone hstop
  · intro l pre x W K hi hK
    have := hassign l x W K (hK _ W (KeepsFrom.refl _ _) (hKr _) hi rfl)
    simpa using this
  · rintro l pre x a' W hl hr hi rfl hlt
    exact hbody l pre x W hl hr hi hlt
end
set_option maxRecDepth 100000 in
set_option maxHeartbeats 8000000 in
theorem draw_gr (W H S : Int) (vL vR : Value) (ld r : List R3) (w : World) (hL : Runs w vL ld) (hR : Runs w vR r) (hok : checkRs W H S ld [r] = true) :
    Calls Try.prog 42 #[.agg #[.int .i64 W, .int .i64 H, .int .i64 S, vL], vR] w fun e w' => e = .returned (.string ⟨(drawL W.toNat H.toNat (cellsL ld) (cellsL r)).toArray⟩) ∧ Below w.heap.size w w' := by
  obtain ⟨A, cap, rfl, -⟩ := id hR
  obtain ⟨AL, capL, rfl, -⟩ := id hL
  have HRd := Lib.hid hR
  have HLd := Lib.hid hL
  have HOK := Lib.hid hok
  clear hR hL hok
  refine (callsIn_wide (n := 9)).1 (callsIn_of_wp_marks Try.func42 rfl trivial ?_ rfl)
  simp only [Try.ntmps42, List.size_toArray, List.length_cons, List.length_nil, Nat.reduceAdd, Nat.reduceSub, Array.replicate_succ, Array.replicate_zero, List.push_toArray, List.append_toArray, List.nil_append, List.cons_append]
  refine wpIn_wide.2 ?_
  obtain ⟨B, hB⟩ : ∃ B, w.heap.size = B := ⟨_, rfl⟩
  go_upto_region 1 with fail
  obtain ⟨w0, hw0⟩ : ∃ W', w.alloc (.cells #[.int .i64 W, .int .i64 H, .int .i64 S, .slice AL ld.length capL] 24) = W' := ⟨_, rfl⟩
  have b0 : Below w.heap.size w w0 := by rw [← hw0]; exact (Below.refl _ _).alloc (Nat.le_refl _) _
  have s0 : w0.heap.size = B + 1 := by rw [← hw0, ← hB]; simp
  have eG : w0.heap[B]? = some (.cells #[.int .i64 W, .int .i64 H, .int .i64 S, .slice AL ld.length capL] 24 (0, 0)) := by
    rw [← hw0, ← hB]
    exact heap_alloc_new w _
  rw [hB] at b0
  rw [hw0]
  clear hw0
  have g0 : w0.cell? ⟨B, 0, none⟩ = some (.int .i64 W) := by simp [World.cell?, eG]
  have g1 : w0.cell? ⟨B, 1, none⟩ = some (.int .i64 H) := by simp [World.cell?, eG]
  have g2 : w0.cell? ⟨B, 2, none⟩ = some (.int .i64 S) := by simp [World.cell?, eG]
  have g3 : w0.cell? ⟨B, 3, none⟩ = some (.slice AL ld.length capL) := by simp [World.cell?, eG]
  have b1' : Below w.heap.size w (w0.alloc (.cells #[.slice A r.length cap] 22)) := by rw [hB]; exact b0.alloc (by omega) _
  have hchk := checked_gr W H S (.slice AL ld.length capL) (.slice (some ⟨w0.heap.size, 0, none⟩) 1 1) ld [.slice A r.length cap] [r] (w0.alloc (.cells #[.slice A r.length cap] 22)) (HLd.out.below b1') (Lst_lit (enc := enc1) (k := 1) (fun _ => rfl) w0 w0.heap.size 1 rfl #[.slice A r.length cap] [.slice A r.length cap] 22 rfl rfl (by unfold maxLen; omega)) rfl (fun i u x hu hx => by
    match i, hu, hx with
    | 0, hu, hx => simp at hu hx; subst hu hx; exact HRd.out.below b1'
    | i + 1, hu, hx => simp at hu)
  rw [HOK.out, argE_true] at hchk
  have HCHK := Lib.hid hchk
  have HBw := Lib.hid hB
  clear hchk b1' hB
  go_wp2_with fail
  rw [s0] at HCHK
  refine HCHK.out.mono ?_
  rintro e w2 ⟨rfl, hb2⟩
  have b2 : Below w0.heap.size w0 w2 := ((Below.refl w0.heap.size w0).alloc (Nat.le_refl _) _).trans (hb2.mono (by simp))
  have bw2 : Below B w w2 := b0.trans (b2.mono (by omega))
  have eG2 := (b2.block B (by omega)).trans eG
  have hM0 : B + 1 ≤ w2.heap.size := by have := b2.size; omega
  clear hb2 b2 eG g0 g1 g2 g3 b0 HCHK
  have hK := HOK.out
  simp only [checkRs, List.all_cons, List.all_nil, Bool.and_true, Bool.and_eq_true] at hK
  obtain ⟨hW, hH, hSz, hrL⟩ := checkG_iff hK.1
  have hrB := hK.2
  clear hK
  simp only [rightB, Bool.and_eq_true, decide_eq_true_eq] at hrB hrL
  have hrowsR := right_rows hrB.1
  have hrowsL := right_rows hrL.1
  have hcl : ∀ {l : List R3}, (∀ z ∈ l, (0 ≤ z.1 ∧ z.1 < H) ∧ 0 ≤ z.2.1 ∧ z.2.2 ≤ W) → ∀ c ∈ cellsL l, PtP W H c := by
    intro l hl c hc
    obtain ⟨z, hz, hc⟩ := List.mem_flatMap.1 hc
    obtain ⟨j, hj, rfl⟩ := List.mem_map.1 hc
    have h1 := hl z hz
    have hj := List.mem_range.1 hj
    dsimp only [PtP]
    omega
  have HPR := Lib.hid (hcl (fun z hz => by have := hrowsR z hz; omega))
  have HPL := Lib.hid (hcl (fun z hz => by have := hrowsL z hz; omega))
  have HbR := Lib.hid (show ∀ z ∈ r, 0 ≤ z.2.1 ∧ z.2.2 ≤ 256 from fun z hz => by have := hrowsR z hz; omega)
  have HbL := Lib.hid (show ∀ z ∈ ld, 0 ≤ z.2.1 ∧ z.2.2 ≤ 256 from fun z hz => by have := hrowsL z hz; omega)
  have hlR := hrB.2
  have hlL := hrL.2
  have HAr := Lib.hid (show ∀ k z, r[k]? = some z → ∃ b off, A = some ⟨b, off, none⟩ ∧ b < B ∧ w.cell? ⟨b, off + k * 3, none⟩ = some (.int .i64 z.1) ∧ w.cell? ⟨b, off + k * 3 + 1, none⟩ = some (.int .i64 z.2.1) ∧ w.cell? ⟨b, off + k * 3 + 2, none⟩ = some (.int .i64 z.2.2) from fun k z hz => by
    obtain ⟨A', c', e, -, -, h3⟩ := HRd.out
    cases e
    obtain ⟨b, off, e, hb, hcs⟩ := h3 (by have := (List.getElem?_eq_some_iff.1 hz).1; omega)
    exact ⟨b, off, e, by rw [← HBw.out]; exact hb, hcs k 0 z _ hz rfl, hcs k 1 z _ hz rfl, hcs k 2 z _ hz rfl⟩)
  have HAl := Lib.hid (show ∀ k z, ld[k]? = some z → ∃ b off, AL = some ⟨b, off, none⟩ ∧ b < B ∧ w.cell? ⟨b, off + k * 3, none⟩ = some (.int .i64 z.1) ∧ w.cell? ⟨b, off + k * 3 + 1, none⟩ = some (.int .i64 z.2.1) ∧ w.cell? ⟨b, off + k * 3 + 2, none⟩ = some (.int .i64 z.2.2) from fun k z hz => by
    obtain ⟨A', c', e, -, -, h3⟩ := HLd.out
    cases e
    obtain ⟨b, off, e, hb, hcs⟩ := h3 (by have := (List.getElem?_eq_some_iff.1 hz).1; omega)
    exact ⟨b, off, e, by rw [← HBw.out]; exact hb, hcs k 0 z _ hz rfl, hcs k 1 z _ hz rfl, hcs k 2 z _ hz rfl⟩)
  clear hrB hrL hrowsR hrowsL hcl
  obtain ⟨Wn, rfl⟩ : ∃ n : Nat, W = n := ⟨W.toNat, by omega⟩
  obtain ⟨Hn, rfl⟩ : ∃ n : Nat, H = n := ⟨H.toNat, by omega⟩
  obtain ⟨i0, hi, hz0, hz1, hz2⟩ := info_parts infoBs
  have g1 : w2.cell? ⟨B, 1, none⟩ = some (.int .i64 (Hn : Int)) := by simp [World.cell?, eG2]
  go_upto_region 4 with (refine wpList_make_row _ rfl _ _ 146 rfl 147 i0 (.slice none 0 0) Try.underlying146 hi hz0 hz1 rfl .i64 .i64 Hn rfl rfl (by rw [hz2]; omega) (by omega) ?_)
  obtain ⟨R, hR⟩ : ∃ R, w2.heap.size = R := ⟨_, rfl⟩
  obtain ⟨w3, hw3⟩ : ∃ W', (w2.alloc (.cells (madeCells #[.slice none 0 0] Hn) 147)).alloc (.cells #[.slice (some ⟨w2.heap.size, 0, none⟩) Hn Hn] 146) = W' := ⟨_, rfl⟩
  have b3 : Below w2.heap.size w2 w3 := by rw [← hw3]; exact ((Below.refl _ _).alloc (Nat.le_refl _) _).alloc (by simp) _
  have s3 : w3.heap.size = R + 1 + 1 := by rw [← hw3, ← hR]; simp
  have eR : w3.heap[R]? = some (.cells (madeCells #[.slice none 0 0] Hn) 147 (0, 0)) := by
    rw [← hw3, ← hR]
    exact (Below.heap_alloc _ _ _ (by simp)).trans (heap_alloc_new w2 _)
  have eT : Boxed w3 (R + 1) 146 (.slice (some ⟨R, 0, none⟩) Hn Hn) := by
    rw [← hw3, ← hR]
    have := Boxed.new (w2.alloc (.cells (madeCells #[.slice none 0 0] Hn) 147)) 146 (.slice (some ⟨w2.heap.size, 0, none⟩) Hn Hn)
    simpa using this
  rw [hR] at b3 hM0
  have eG3 := (b3.block B (by omega)).trans eG2
  have bw3 := bw2.trans (b3.mono (by omega))
  have p0 : PicM w3 (R + 1 + 1) R Hn Wn (fun _ => .slice none 0 0) 0 (fun _ => 0) (fun _ => 0) (fun _ _ => 46) :=
    ⟨fun i hi => by
      have h := made_at (.slice none 0 0) Hn i hi
      simp [World.cell?, eR, h], fun i hi => by simp [World.frozen?, eR], fun i hi => by omega, fun i hi => by omega, by omega, fun i j hi => by omega, fun i x hi => by omega, fun i x hi => by omega, fun i hi => by omega⟩
  rw [hw3, hR]
  have P0 := Lib.hid p0
  have c5 := eT.cell
  have HB3 := Lib.hid bw3
  have HET := Lib.hid eT
  have HEG := Lib.hid eG3
  clear hw3 hR b3 eR p0 bw2 eG2 g1 s0 bw3 eT eG3
  have hH0 : Hn ≤ 9223372036854775807 := by omega
  obtain ⟨ds, hds⟩ : ∃ s : ByteArray, (⟨(List.replicate Wn (46 : UInt8)).toArray⟩ : ByteArray) = s := ⟨_, rfl⟩
  have HREP := Lib.hid (show ∀ w, Calls Try.prog 90 #[.string ⟨#[46]⟩, .int .i64 (Wn : Int)] w fun e w' => e = .returned (.string ds) ∧ Below w.heap.size w w' from fun w => by
    have h := Try.repeat_c ⟨#[46]⟩ Wn w (by omega) (by show 1 * Wn ≤ _; omega)
    rw [show (⟨#[46]⟩ : ByteArray).data.toList = [46] from rfl, repeat_one, hds] at h
    exact h)
  have HCV := Lib.hid (show ∀ w, (Go.convert 9 147 (.string ds)).run Try.prog w = .ok (.slice (some ⟨w.heap.size, 0, none⟩) Wn (grownCap w Wn 0 5)) (bytesWorld w 5 ds) from fun w => by
    have h := Lib.run_convert_string_bytes (P := Try.prog) w 9 147 5 ds Try.underlying9 Try.underlying147 Try.underlying5
    rw [show ds.size = Wn by rw [← hds]; simp [ByteArray.size]] at h
    exact h)
  have HDS := Lib.hid hds
  clear hds
  go_wp2_with fail
  go_loopw [23] (fun v wr => ∃ k : Nat, k ≤ Hn ∧ v = .int .i64 k ∧ ∃ rv q c, PicM wr wr.heap.size R Hn Wn rv k q c (fun _ _ => 46) ∧ Xt (fun b => b = R) w3 wr) (fun v _ => Hn - (intOf v).toNat)
  case atStart => exact ⟨0, by omega, rfl, _, _, _, by rw [s3]; exact P0.out, Xt.refl _ _⟩
  case round =>
    obtain ⟨k, hk, rfl, rv, q, c, hp, hx⟩ := hrel
    by_cases hlt : k < Hn
    · have c5 := (hx.cell (a := ⟨R + 1, 0, none⟩) (by show R + 1 < _; omega) (by simp)).trans c5
      have eG := (hx.block B (by omega) (by omega)).trans HEG.out
      have g0 : wr.cell? ⟨B, 0, none⟩ = some (.int .i64 (Wn : Int)) := by simp [World.cell?, eG]
      have hsz := hx.size
      have nB : B < wr.heap.size := by omega
      have nT : R + 1 < wr.heap.size := by omega
      have hrc := hp.row k hlt
      have hrf := hp.rfz k hlt
      have HP := Lib.hid hp
      have HX := Lib.hid hx
      clear hp hx eG
      go_upto_region 7 with fail
      have hRB : R ≠ B := by omega
      have hBR : B ≠ R := by omega
      have nR : R < wr.heap.size := by omega
      refine wp_region_noPanic ?_
      refine wp_region_held_drew (S := fun W' => W'.cell? ⟨R + 1, 0, none⟩ = some (.slice (some ⟨R, 0, none⟩) Hn Hn) ∧ W'.cell? ⟨B, 0, none⟩ = some (.int .i64 (Wn : Int))) (by kernel_rfl) ⟨c5, g0⟩ (fun hHeld => ?_)
      refine wpAnyH_take (i := 0) (oi := ({ dst := some 26, op := Op.load 146 (Operand.tmp 5), type := 146, pos := "grid.go:313", after := #[], guard := none } : Oper)) (v := ?_) rfl (by kernel_rfl) (by kernel_rfl) (by kernel_rfl) (fun _ _ _ h => h) (Or.inl ⟨by rfl, ?_⟩) (by assumption) ?_
      rotate_left
      · ((intro w hSw; (try dsimp only at hSw); go_simp); try with_reducible rfl)
      (try simp only [Act.put, List.setIfInBounds_toArray, List.set_cons_zero, List.set_cons_succ])
      refine wpAnyH_take (i := 1) (oi := ({ dst := some 27, op := Op.move (Operand.tmp 6), type := 3, pos := "grid.go:313", after := #[], guard := none } : Oper)) (v := ?_) rfl (by kernel_rfl) (by kernel_rfl) (by kernel_rfl) (fun _ _ _ h => h) (Or.inl ⟨by rfl, ?_⟩) (by assumption) ?_
      rotate_left
      · ((intro w hSw; (try dsimp only at hSw); go_simp); try with_reducible rfl)
      (try simp only [Act.put, List.setIfInBounds_toArray, List.set_cons_zero, List.set_cons_succ])
      refine wpAnyH_take (i := 2) (oi := ({ dst := some 28, op := Op.fieldAddr 24 (Operand.tmp 2) 0, type := 0, pos := "grid.go:313", after := #[], guard := none } : Oper)) (v := ?_) rfl (by kernel_rfl) (by kernel_rfl) (by kernel_rfl) (fun _ _ _ h => h) (Or.inl ⟨by rfl, ?_⟩) (by assumption) ?_
      rotate_left
      · ((intro w hSw; (try dsimp only at hSw); go_simp); try with_reducible rfl)
      (try simp only [Act.put, List.setIfInBounds_toArray, List.set_cons_zero, List.set_cons_succ])
      refine wpAnyH_take (i := 3) (oi := ({ dst := some 29, op := Op.load 3 (Operand.tmp 28), type := 3, pos := "grid.go:313", after := #[{ on := 2, ground := Ground.data }], guard := none } : Oper)) (v := ?_) rfl (by kernel_rfl) (by kernel_rfl) (by kernel_rfl) (fun _ _ _ h => h) (Or.inl ⟨by rfl, ?_⟩) (by assumption) ?_
      rotate_left
      · ((intro w hSw; (try dsimp only at hSw); go_simp); try with_reducible rfl)
      (try simp only [Act.put, List.setIfInBounds_toArray, List.set_cons_zero, List.set_cons_succ])
      refine wpAnyH_ready (rs := [4]) (by kernel_rfl) (by simp) (AllReadyH.cons (o := ({ dst := some 30, op := Op.call { callee := Callee.value (Operand.func 90), args := #[Operand.const (Value.string { data := #[46] }), Operand.tmp 29], argTypes := #[9, 3] }, type := 9, pos := "grid.go:313", after := #[{ on := 3, ground := Ground.data }], guard := none } : Oper)) rfl (fun K hK => ?_) AllReadyH.nil)
      go_simp
      (go_at_call 90; (with_reducible refine (HREP.out _).mono ?_); rintro e wa ⟨rfl, hba⟩)
      have hza := hba.size
      have d5 := (hba.cell (p := ⟨R + 1, 0, none⟩) nT).trans c5
      have d0 := (hba.cell (p := ⟨B, 0, none⟩) nB).trans g0
      refine hK.out _ _ ⟨d5, d0⟩ (fun hHeld => ?_)
      clear hK K
      (try simp only [Act.put, List.setIfInBounds_toArray, List.set_cons_zero, List.set_cons_succ])
      have hcv := HCV.out wa
      have e5 := (bytesWorld_old wa 5 ds ⟨R + 1, 0, none⟩ (Nat.lt_of_lt_of_le nT hza)).trans d5
      have e0 := (bytesWorld_old wa 5 ds ⟨B, 0, none⟩ (Nat.lt_of_lt_of_le nB hza)).trans d0
      refine wpAnyH_ready (rs := [5]) (by kernel_rfl) (by simp) (AllReadyH.cons (o := ({ dst := some 31, op := Op.convert 9 147 (Operand.tmp 30), type := 147, pos := "grid.go:313", after := #[{ on := 4, ground := Ground.data }], guard := none } : Oper)) rfl (fun K hK => ?_) AllReadyH.nil)
      go_simp
      refine hK.out _ _ ⟨e5, e0⟩ (fun hHeld => ?_)
      clear hK K
      (try simp only [Act.put, List.setIfInBounds_toArray, List.set_cons_zero, List.set_cons_succ])
      have erc := (bytesWorld_old wa 5 ds ⟨R, k, none⟩ (Nat.lt_of_lt_of_le nR hza)).trans ((hba.cell (p := ⟨R, k, none⟩) nR).trans hrc)
      have erf := (World.frozen?_of_block (a := ⟨R, k, none⟩) (bytesWorld_at_old wa 5 ds R (Nat.lt_of_lt_of_le nR hza))).trans ((hba.frozen (p := ⟨R, k, none⟩) nR).trans hrf)
      clear hcv
      refine wpAnyH_take (i := 6) (oi := ({ dst := some 32, op := Op.indexAddr 146 (Operand.tmp 26) (Operand.tmp 27), type := 0, pos := "grid.go:313", after := #[{ on := 0, ground := Ground.data }, { on := 1, ground := Ground.data }, { on := 0, ground := Ground.phase }, { on := 1, ground := Ground.phase }, { on := 2, ground := Ground.phase }, { on := 3, ground := Ground.phase }, { on := 4, ground := Ground.phase }, { on := 5, ground := Ground.phase }], guard := none } : Oper)) (v := ?_) rfl (by kernel_rfl) (by kernel_rfl) (by kernel_rfl) (fun _ _ _ h => h) (Or.inl ⟨by rfl, ?_⟩) (by assumption) ?_
      rotate_left
      · ((intro w hSw; (try dsimp only at hSw); go_simp); try with_reducible rfl)
      (try simp only [Act.put, List.setIfInBounds_toArray, List.set_cons_zero, List.set_cons_succ])
      refine wpAnyH_ready (rs := [7]) (by kernel_rfl) (by simp) (AllReadyH.cons (o := ({ dst := none, op := Op.store 147 (Operand.tmp 32) (Operand.tmp 31), type := 0, pos := "grid.go:313", after := #[{ on := 6, ground := Ground.data }, { on := 5, ground := Ground.data }, { on := 4, ground := Ground.chain }, { on := 0, ground := Ground.phase }, { on := 1, ground := Ground.phase }, { on := 2, ground := Ground.phase }, { on := 3, ground := Ground.phase }, { on := 4, ground := Ground.phase }, { on := 5, ground := Ground.phase }], guard := none } : Oper)) rfl (fun K hK => ?_) AllReadyH.nil)
      go_simp
      refine hK.out _ _ ⟨(cell_ne (.inl (by omega))).trans e5, (cell_ne (.inl hRB)).trans e0⟩ (fun hHeld => ?_)
      clear hK K
      (try simp only [Act.put, List.setIfInBounds_toArray, List.set_cons_zero, List.set_cons_succ])
      refine wpAnyH_done (by kernel_rfl) ?_ _
      refine NoPanic.normal ?_
      have hbb : Below wr.heap.size wr wa := ⟨hba.os, hba.tape, hba.output, hba.size, hba.block⟩
      have hp := HP.out.push (Nat.le_refl _) hlt (grownCap wa Wn 0 5) (b := 46) (fun _ _ => rfl) hbb
      rw [HDS.out] at hp
      have hx := ((HX.out.thenBelow hbb hsz).thenBelow (bytes_below wa 5 ds) (Nat.le_trans hsz hza)).setCell R k (.slice (some ⟨wa.heap.size, 0, none⟩) Wn (grownCap wa Wn 0 5)) (.inl rfl)
      have hs : ((bytesWorld wa 5 ds).setCell ⟨R, k, none⟩ (.slice (some ⟨wa.heap.size, 0, none⟩) Wn (grownCap wa Wn 0 5))).heap.size = wa.heap.size + 1 := by
        have := bytesWorld_size wa 5 ds
        simpa [World.setCell] using this
      obtain ⟨gc, hgc⟩ : ∃ gc, grownCap wa Wn 0 5 = gc := ⟨_, rfl⟩
      rw [hgc] at hp hx hs ⊢
      obtain ⟨wn, hwn⟩ : ∃ wn, (bytesWorld wa 5 ds).setCell ⟨R, k, none⟩ (.slice (some ⟨wa.heap.size, 0, none⟩) Wn gc) = wn := ⟨_, rfl⟩
      rw [hwn] at hp hx hs ⊢
      rw [← hs] at hp
      have HP2 := Lib.hid hp
      have HX2 := Lib.hid hx
      have hwk : IntKind.i64.wrap ((k : Int) + 1) = k + 1 := wrapK _ (by omega) (by omega)
      clear hwn hgc hs hp hx hbb hba hza d5 d0 e5 e0 erc erf HP HX c5 g0 hrc hrf
      go_wp2_with fail
      refine ⟨⟨k + 1, by omega, by simp, _, _, _, HP2.out, HX2.out⟩, ?_⟩
      simp only [intOf]
      omega
    · obtain rfl : Hn = k := by omega
      have hsz := hx.size
      have hRl := hp.Rlt
      have c5 := (hx.cell (a := ⟨R + 1, 0, none⟩) (by show R + 1 < _; omega) (by simp)).trans c5
      have eG := (hx.block B (by omega) (by omega)).trans HEG.out
      have g3 : wr.cell? ⟨B, 3, none⟩ = some (.slice AL ld.length capL) := by simp [World.cell?, eG]
      have bw := Xt.below HB3.out hx (by omega) (fun b hb => by omega)
      obtain ⟨Z, hZ⟩ : ∃ Z, wr.heap.size = Z := ⟨_, rfl⟩
      rw [hZ] at hp hsz hRl
      have HP := Lib.hid hp
      clear hp hx P0 HREP HCV HDS HEG HET HB3 eG
      go_wp2_with fail
      refine (cells_call AL ld.length capL wr).mono ?_
      rintro e w5 ⟨rfl, hw5⟩
      have hBr : w5.cell? ⟨Z, 0, none⟩ = some (.slice AL ld.length capL) := by rw [hw5, ← hZ]; simp [go_sem]
      have b5 : Below wr.heap.size wr w5 := by rw [hw5]; exact (Below.refl _ _).alloc (Nat.le_refl _) _
      have s5 : w5.heap.size = Z + 1 := by rw [hw5]; simp [hZ]
      clear hw5
      rw [hZ] at b5 ⊢
      have c5 := (b5.cell (p := ⟨R + 1, 0, none⟩) hRl).trans c5
      have hp5 := HP.out.of (w' := w5) (fun j _ hj => b5.block j hj)
      have bw5 := bw.trans (b5.mono (by omega))
      clear b5 bw HP g3 hZ
      have hseq := cellsP_stops (PtP Wn Hn) Fence.wide 8 trivial rfl (by omega) Z B ld.length capL AL ld HPL.out rfl HbL.out (by omega) w5 (by omega) (by omega) hBr
        (fun k z hz => by
          obtain ⟨b, off, e, hb, h1, h2, h3⟩ := HAl.out k z hz
          exact ⟨b, off, e, hb, (bw5.cell (p := ⟨b, off + k * 3, none⟩) hb).trans h1, (bw5.cell (p := ⟨b, off + k * 3 + 1, none⟩) hb).trans h2, (bw5.cell (p := ⟨b, off + k * 3 + 2, none⟩) hb).trans h3⟩)
      have hown : OwnFrom w5.heap.size (fun (pre : List { c : Int × Int // PtP Wn Hn c }) W' => PicM W' Z R Hn Wn rv Hn q c ((valsC pre).foldl landP fun _ _ => 46) ∧ Z ≤ W'.heap.size) := fun pre X Y row hs hg hr =>
        ⟨hs.1.of (fun j _ hj => hg.block j (Nat.lt_of_lt_of_le hj hs.2) (fun e => by have := (hr j e.symm).1; omega)), Nat.le_trans hs.2 hg.size⟩
      go_wp2_with fail
      refine (wpIn_wide (n := 9)).1 (wpIn_rangeFunc_box (d := 7) rfl (by omega) (gf := 109) (lb := #[.pointer (some ⟨Z, 0, none⟩)]) rfl trivial (enters_of Try.func109 (by kernel_rfl) rfl) hseq KpR.t (KpR.b (by omega)) (Below.refl _ _)
        (fun (pre : List { c : Int × Int // PtP Wn Hn c }) W' => (PicM W' Z R Hn Wn rv Hn q c ((valsC pre).foldl landP fun _ _ => 46) ∧ Z ≤ W'.heap.size) ∧ Xt (fun b => R + 1 < b ∧ b < Z) w5 W')
        (fun _ _ _ => False)
        (hown.and xtOwn)
        (fun _ _ _ _ _ hs _ _ => hs)
        ⟨⟨hp5, by omega⟩, Xt.refl _ _⟩
        (fun c => #[.int .i64 c.1.1, .int .i64 c.1.2]) 39
        ?assign (fun pre W' h => h.2.size) ?body ?done ?stop)
      case assign =>
        rintro l pre ⟨⟨x, y⟩, hx⟩ W' K ⟨hs, hE⟩ hK
        have hba := (Below.refl W'.heap.size W').alloc (Nat.le_refl _) (.cells #[.int .i64 x, .int .i64 y] 39)
        have hK' := hK _ ((KeepsOthers.alloc _ _).from _) (KpR.alloc (by have := hE.size; omega) _) ⟨⟨hs.1.of (fun j _ hj => Below.heap_alloc _ _ _ (by omega)), Nat.le_trans hs.2 (by simp)⟩, hE.thenBelow hba hE.size⟩ rfl
        simp only [List.setIfInBounds_toArray, List.set_cons_succ, List.set_cons_zero] at hK' ⊢
        have HK := Lib.hid hK'
        clear hK hK'
        gi_wp2
        exact HK.out
      case body =>
        rintro l pre ⟨⟨x, y⟩, hx⟩ Bx W' hl ⟨lr, hlr⟩ ⟨hs, hE⟩ hBx hbx hlt
        simp only [List.setIfInBounds_toArray, List.set_cons_succ, List.set_cons_zero]
        have hx' := hx
        dsimp only [PtP] at hx'
        obtain ⟨xn, rfl⟩ : ∃ n : Nat, x = n := ⟨x.toNat, by omega⟩
        obtain ⟨yn, rfl⟩ : ∃ n : Nat, y = n := ⟨y.toNat, by omega⟩
        have x0 : W'.cell? ⟨Bx, 0, none⟩ = some (.int .i64 (xn : Int)) := by simp [World.cell?, hbx]
        have x1 : W'.cell? ⟨Bx, 1, none⟩ = some (.int .i64 (yn : Int)) := by simp [World.cell?, hbx]
        have cT := (hE.cell (a := ⟨R + 1, 0, none⟩) (by show R + 1 < _; omega) (by simp)).trans c5
        have hy1 : yn < Hn := by omega
        have hx1 : xn < Wn := by omega
        have cR := hs.1.row yn hy1
        rw [hs.1.val yn hy1] at cR
        have cB := hs.1.cell yn xn hy1 hx1
        have fB := hs.1.fz yn xn hy1 hx1
        have i1 : (0 : Int) ≤ xn := by omega
        have i2 : (0 : Int) ≤ yn := by omega
        have i3 : (xn : Int) < Wn := by omega
        have i4 : (yn : Int) < Hn := by omega
        have hmx : Try.prog.follows .mixedOrders = true := by kernel_rfl
        have hlq := hs.1.lt yn hy1
        have HEND := Lib.hid (show KeepsFrom w5.heap.size W' (W'.setCell ⟨q yn, xn, none⟩ (.int .u8 94)).drew ∧ KpR B W' (W'.setCell ⟨q yn, xn, none⟩ (.int .u8 94)).drew ∧
            ((PicM (W'.setCell ⟨q yn, xn, none⟩ (.int .u8 94)).drew Z R Hn Wn rv Hn q c ((valsC (pre ++ [⟨((xn : Int), (yn : Int)), hx⟩])).foldl landP fun _ _ => 46) ∧ Z ≤ (W'.setCell ⟨q yn, xn, none⟩ (.int .u8 94)).drew.heap.size) ∧ Xt (fun b => R + 1 < b ∧ b < Z) w5 (W'.setCell ⟨q yn, xn, none⟩ (.int .u8 94)).drew) from by
          have hX := hE.setCell (q yn) xn (.int .u8 94) (.inl ⟨hlq.1, hlq.2⟩)
          have hset := hs.1.set hy1 hx1 94
          refine ⟨((KeepsOthers.setCell _ _ _).trans (KeepsOthers.drew _)).from _, (hs.1.kp hy1 _ (by omega)).drew, ⟨?_, by simpa [World.setCell] using hs.2⟩, ⟨hX.os, hX.tape, hX.output, hX.size, hX.block⟩⟩
          rw [valsC_snoc, List.foldl_append]
          exact hset.of (fun _ _ _ => rfl))
        clear hlq hs hE hx' hlr hbx s5
        gi_wp2
        gi_region_with_o (fail)
        all_goals exact HEND.out
      case stop =>
        rintro D c pre W' _ _ h _
        exact h.elim
      case done =>
        rintro D ys W1 hD hys ⟨hs, hE⟩ hK
        rw [show valsC ys = cellsL ld from hys] at hs
        have c5 := (hE.cell (a := ⟨R + 1, 0, none⟩) (by show R + 1 < _; omega) (by simp)).trans c5
        have bw1 := Xt.below bw5 hE (by omega) (fun b hb => by omega)
        have HS := Lib.hid hs
        have hDl : D < W1.heap.size := (Array.getElem?_eq_some_iff.1 hK).1
        have hZ1 := hs.2
        have hDZ : Z < D := by omega
        have H5 := Lib.hid (show B ≤ w5.heap.size ∧ w5.heap.size = Z + 1 from ⟨by omega, s5⟩)
        clear hseq hE hys hs bw5 hBr s5
        dsimp only
        obtain ⟨P1, hP1⟩ : ∃ P1, (cellsL ld).foldl landP (fun _ _ => 46) = P1 := ⟨_, rfl⟩
        rw [hP1] at HS
        obtain ⟨Y, hY⟩ : ∃ Y, W1.heap.size = Y := ⟨_, rfl⟩
        have HP1 := Lib.hid hP1
        clear hP1
        go_wp2_with fail
        refine (cells_call A r.length cap W1).mono ?_
        rintro e w6 ⟨rfl, hw6⟩
        have hBr : w6.cell? ⟨Y, 0, none⟩ = some (.slice A r.length cap) := by rw [hw6, ← hY]; simp [go_sem]
        have b6 : Below W1.heap.size W1 w6 := by rw [hw6]; exact (Below.refl _ _).alloc (Nat.le_refl _) _
        have s6 : w6.heap.size = Y + 1 := by rw [hw6]; simp [hY]
        clear hw6
        rw [hY] at b6 hDl hZ1 ⊢
        have c5 := (b6.cell (p := ⟨R + 1, 0, none⟩) (by show R + 1 < Y; omega)).trans c5
        have hp6 := HS.out.1.of (w' := w6) (fun j _ hj => b6.block j (by omega))
        have hK := (b6.block D hDl).trans hK
        have bw6 := bw1.trans (b6.mono (by omega))
        clear b6 bw1 HS hY
        have hseq := cellsP_stops (PtP Wn Hn) Fence.wide 8 trivial rfl (by omega) Y B r.length cap A r HPR.out rfl HbR.out (by omega) w6 (by omega) (by omega) hBr
          (fun k z hz => by
            obtain ⟨b, off, e, hb, h1, h2, h3⟩ := HAr.out k z hz
            exact ⟨b, off, e, hb, (bw6.cell (p := ⟨b, off + k * 3, none⟩) hb).trans h1, (bw6.cell (p := ⟨b, off + k * 3 + 1, none⟩) hb).trans h2, (bw6.cell (p := ⟨b, off + k * 3 + 2, none⟩) hb).trans h3⟩)
        have hown : OwnFrom w6.heap.size (fun (pre : List { c : Int × Int // PtP Wn Hn c }) W' => PicM W' Z R Hn Wn rv Hn q c ((valsC pre).foldl markP P1) ∧ Z ≤ W'.heap.size) := fun pre X Y row hs hg hr =>
          ⟨hs.1.of (fun j _ hj => hg.block j (Nat.lt_of_lt_of_le hj hs.2) (fun e => by have := (hr j e.symm).1; omega)), Nat.le_trans hs.2 hg.size⟩
        go_wp2_with fail
        refine (wpIn_wide (n := 9)).1 (wpIn_rangeFunc_box (d := 8) rfl (by omega) (gf := 109) (lb := #[.pointer (some ⟨Y, 0, none⟩)]) rfl trivial (enters_of Try.func109 (by kernel_rfl) rfl) hseq KpR.t (KpR.b (by omega)) (Below.refl _ _)
          (fun (pre : List { c : Int × Int // PtP Wn Hn c }) W' => (PicM W' Z R Hn Wn rv Hn q c ((valsC pre).foldl markP P1) ∧ Z ≤ W'.heap.size) ∧ Xt (fun b => R + 1 < b ∧ b < Z) w6 W')
          (fun _ _ _ => False)
          (hown.and xtOwn)
          (fun _ _ _ _ _ hs _ _ => hs)
          ⟨⟨hp6, by omega⟩, Xt.refl _ _⟩
          (fun c => #[.int .i64 c.1.1, .int .i64 c.1.2]) 39
          ?assign2 (fun pre W' h => h.2.size) ?body2 ?done2 ?stop2)
        case assign2 =>
          rintro l pre ⟨⟨x, y⟩, hx⟩ W' K ⟨hs, hE⟩ hK
          have hba := (Below.refl W'.heap.size W').alloc (Nat.le_refl _) (.cells #[.int .i64 x, .int .i64 y] 39)
          have hK' := hK _ ((KeepsOthers.alloc _ _).from _) (KpR.alloc (by have := hE.size; omega) _) ⟨⟨hs.1.of (fun j _ hj => Below.heap_alloc _ _ _ (by omega)), Nat.le_trans hs.2 (by simp)⟩, hE.thenBelow hba hE.size⟩ rfl
          simp only [List.setIfInBounds_toArray, List.set_cons_succ, List.set_cons_zero] at hK' ⊢
          have HK := Lib.hid hK'
          clear hK hK'
          gi_wp2
          exact HK.out
        case body2 =>
          rintro l pre ⟨⟨x, y⟩, hx⟩ Bx W' hl ⟨lr, hlr⟩ ⟨hs, hE⟩ hBx hbx hlt
          simp only [List.setIfInBounds_toArray, List.set_cons_succ, List.set_cons_zero]
          have hx' := hx
          dsimp only [PtP] at hx'
          obtain ⟨xn, rfl⟩ : ∃ n : Nat, x = n := ⟨x.toNat, by omega⟩
          obtain ⟨yn, rfl⟩ : ∃ n : Nat, y = n := ⟨y.toNat, by omega⟩
          have x0 : W'.cell? ⟨Bx, 0, none⟩ = some (.int .i64 (xn : Int)) := by simp [World.cell?, hbx]
          have x1 : W'.cell? ⟨Bx, 1, none⟩ = some (.int .i64 (yn : Int)) := by simp [World.cell?, hbx]
          have cT := (hE.cell (a := ⟨R + 1, 0, none⟩) (by show R + 1 < _; omega) (by simp)).trans c5
          have hy1 : yn < Hn := by omega
          have hx1 : xn < Wn := by omega
          have cR := hs.1.row yn hy1
          rw [hs.1.val yn hy1] at cR
          obtain ⟨P, hP⟩ : ∃ P, (valsC pre).foldl markP P1 = P := ⟨_, rfl⟩
          rw [hP] at hs
          have i1 : (0 : Int) ≤ xn := by omega
          have i2 : (0 : Int) ≤ yn := by omega
          have i3 : (xn : Int) < Wn := by omega
          have i4 : (yn : Int) < Hn := by omega
          have hlq := hs.1.lt yn hy1
          have HEND := Lib.hid (show ∀ (nq : Nat) (v : UInt8), v = (if P yn xn = 94 then 64 else 35) → KeepsFrom w6.heap.size W' ((W'.drewN nq).setCell ⟨q yn, xn, none⟩ (.int .u8 (v.toNat : Int))) ∧ KpR B W' ((W'.drewN nq).setCell ⟨q yn, xn, none⟩ (.int .u8 (v.toNat : Int))) ∧
              ((PicM ((W'.drewN nq).setCell ⟨q yn, xn, none⟩ (.int .u8 (v.toNat : Int))) Z R Hn Wn rv Hn q c ((valsC (pre ++ [⟨((xn : Int), (yn : Int)), hx⟩])).foldl markP P1) ∧ Z ≤ ((W'.drewN nq).setCell ⟨q yn, xn, none⟩ (.int .u8 (v.toNat : Int))).heap.size) ∧ Xt (fun b => R + 1 < b ∧ b < Z) w6 ((W'.drewN nq).setCell ⟨q yn, xn, none⟩ (.int .u8 (v.toNat : Int)))) from by
            rintro nq v rfl
            have hs2 : PicM (W'.drewN nq) Z R Hn Wn rv Hn q c P := hs.1.of (fun _ _ _ => rfl)
            have hE2 : Xt (fun b => R + 1 < b ∧ b < Z) w6 (W'.drewN nq) := ⟨hE.os, hE.tape, hE.output, hE.size, hE.block⟩
            have hX := hE2.setCell (q yn) xn (.int .u8 (((if P yn xn = 94 then 64 else 35 : UInt8)).toNat : Int)) (.inl ⟨hlq.1, hlq.2⟩)
            have hset := hs2.set hy1 hx1 (if P yn xn = 94 then 64 else 35)
            have hkp : KpR B W' (W'.drewN nq) := ⟨⟨rfl, rfl, rfl, Nat.le_refl _, fun _ _ => rfl⟩, fun _ _ _ h => h⟩
            have hko : KeepsOthers W' (W'.drewN nq) := ⟨Nat.le_refl _, fun _ _ h _ => h⟩
            refine ⟨(hko.trans (KeepsOthers.setCell _ _ _)).from _, hkp.t (hs2.kp hy1 _ (by omega)), ⟨?_, by simpa [World.setCell] using hs.2⟩, hX⟩
            rw [valsC_snoc, List.foldl_append, hP]
            exact hset)
          have hPc := hs.1.cell yn xn hy1 hx1
          have fB := hs.1.fz yn xn hy1 hx1
          obtain ⟨u, hu⟩ : ∃ u, P yn xn = u := ⟨_, rfl⟩
          rw [hu] at hPc HEND
          clear hlq hs hE hx' hlr hbx hu hP s6
          gi_wp2
          refine wpIn_region_quiet_round l rfl (by kernel_rfl) (by kernel_rfl) (by kernel_rfl) ?_
          repeat (gi_big_quiet_step (fail))
          refine wpQuietIn_nil ?_
          rintro _ ⟨nq, rfl⟩
          have hPc : (W'.drewN nq).cell? ⟨q yn, xn, none⟩ = some (.int .u8 (u.toNat : Int)) := hPc
          have fB : (W'.drewN nq).frozen? ⟨q yn, xn, none⟩ = false := fB
          have HE := Lib.hid (HEND.out nq)
          clear HEND x0 x1 cT cR
          generalize W'.drewN nq = W2 at hPc fB HE ⊢
          by_cases h94 : u = 94
          · subst h94
            have hPc : W2.cell? ⟨q yn, xn, none⟩ = some (.int .u8 94) := hPc
            gi_wp2
            exact HE.out 64 (by simp)
          · obtain ⟨z, hz⟩ : ∃ z : Int, (u.toNat : Int) = z := ⟨_, rfl⟩
            have hz1 : z ≠ 94 := fun e => h94 (by
              rw [← hz] at e
              have e : u.toNat = 94 := by omega
              exact UInt8.toNat.inj e)
            have t1 : (z == 94) = false := by simp [hz1]
            have t2 : (z = 94) = False := by simp [hz1]
            rw [hz] at hPc
            have h35 := HE.out 35 (by rw [if_neg h94])
            have HE2 := Lib.hid h35
            clear h35 HE hz
            gi_wp2
            exact HE2.out
        case stop2 =>
          rintro D c pre W' _ _ h _
          exact h.elim
        case done2 =>
          rintro D2 ys W3 hD2 hys ⟨hs, hE⟩ hK2
          rw [show valsC ys = cellsL r from hys] at hs
          have c5 := (hE.cell (a := ⟨R + 1, 0, none⟩) (by show R + 1 < _; omega) (by simp)).trans c5
          have hK := (hE.block D (by omega) (by omega)).trans hK
          have bw3 := Xt.below bw6 hE (by omega) (fun b hb => by omega)
          have hpic : (cellsL r).foldl markP P1 = pictL (cellsL ld) (cellsL r) := by rw [← HP1.out]; rfl
          rw [hpic] at hs
          have HS := Lib.hid hs
          have hDl2 : D2 < W3.heap.size := (Array.getElem?_eq_some_iff.1 hK2).1
          have hZ3 := hs.2
          have hDl : D < W3.heap.size := by have := hE.size; omega
          have hDD : D < D2 := by omega
          clear hseq hE hys hs bw6 hBr s6 hpic HP1
          dsimp only
          go_upto_region 19 with fail
          obtain ⟨b, hb⟩ : ∃ b, W3.heap.size = b := ⟨_, rfl⟩
          obtain ⟨w7, hw7⟩ : ∃ W', W3.alloc (.cells #[.pointer none, .slice none 0 0] 152) = W' := ⟨_, rfl⟩
          have b7 : Below W3.heap.size W3 w7 := by rw [← hw7]; exact (Below.refl _ _).alloc (Nat.le_refl _) _
          have s7 : w7.heap.size = b + 1 := by rw [← hw7, ← hb]; simp
          have hB7 : Bld b b [] w7 := by
            refine .inl ⟨Nat.le_refl _, .slice none 0 0, ?_, World.ownsRowF_nil _ _ _ _, by simp [Value.ownBlock]⟩
            rw [← hw7, ← hb]
            exact heap_alloc_new W3 _
          rw [hw7, hb]
          rw [hb] at b7 hDl2 hZ3 hDl
          clear hw7
          have c5 := (b7.cell (p := ⟨R + 1, 0, none⟩) (by show R + 1 < b; omega)).trans c5
          go_wp2_with fail
          refine (backw_call R Hn Hn w7).mono ?_
          rintro e w8 ⟨rfl, hw8⟩
          have hBx : w8.heap[b + 1]? = some (.cells #[.slice (some ⟨R, 0, none⟩) Hn Hn] 146 (0, 0)) := by rw [hw8, ← s7]; exact heap_alloc_new w7 _
          have b8 : Below w7.heap.size w7 w8 := by rw [hw8]; exact (Below.refl _ _).alloc (Nat.le_refl _) _
          have s8 : w8.heap.size = b + 2 := by rw [hw8]; simp [s7]
          have hB8 : Bld b b [] w8 := Bld.own (β := Unit) (f := fun _ => []) (Z := w7.heap.size) () w7 w8 none hB7 (by rw [hw8]; exact World.grownBy_alloc w7 _ none) (by simp)
          rw [s7] at b8 ⊢
          clear hw8 hB7
          have b78 : Below b W3 w8 := b7.trans (b8.mono (by omega))
          have hK := (b78.block D (by omega)).trans hK
          have hK2 := (b78.block D2 hDl2).trans hK2
          have hp8 := HS.out.1.of (w' := w8) (fun j _ hj => b78.block j (by omega))
          have bw8 := bw3.trans (b78.mono (by omega))
          have HP8 := Lib.hid hp8
          have hRl8 := hp8.Rlt
          clear b7 b8 b78 HS s7 hb bw3 c5
          have hseq := backw_stops Fence.wide 8 trivial rfl (by omega) (b + 1) b Hn Hn R rv (by omega) w8 (by omega) (by omega) hBx (by omega) (fun i hi => HP8.out.row i hi)
          obtain ⟨lin, hlin⟩ : ∃ lin : Nat → List UInt8, (fun y => lineL (pictL (cellsL ld) (cellsL r)) Wn y ++ [10]) = lin := ⟨_, rfl⟩
          have hlinl : ∀ y, (lin y).length = Wn + 1 := fun y => by rw [← hlin]; simp [lineL]
          have hown3 : OwnFrom w8.heap.size (fun (pre : List { i : Nat // i < Hn }) W' => Bld b b (Lib.byteCells ((valsI pre).flatMap lin)) W' ∧ Below b w8 W') := Bld.own.and (ownFrom_below (w₀ := w8) (B := w8.heap.size) (by omega) (by omega))
          go_wp2_with fail
          refine (wpIn_wide (n := 9)).1 (wpIn_rangeFunc_pair (d := 12) rfl (by omega) (gf := 129) (lb := #[.pointer (some ⟨b + 1, 0, none⟩)]) rfl trivial (enters_of Try.func129 (by kernel_rfl) rfl) hseq KpB.refl KpB.t (KpB.b (by omega)) (Below.refl _ _)
            (fun (pre : List { i : Nat // i < Hn }) W' => Bld b b (Lib.byteCells ((valsI pre).flatMap lin)) W' ∧ Below b w8 W')
            (fun _ _ _ => False)
            hown3
            (fun _ _ _ _ _ hs _ _ => hs)
            ⟨hB8, Below.refl _ _⟩
            ?assign3 ?body3 ?done3 ?stop3)
          case assign3 =>
            rintro l ⟨i, hi⟩ W' K hK
            simp only [List.setIfInBounds_toArray, List.set_cons_succ, List.set_cons_zero] at hK ⊢
            have HK := Lib.hid hK
            clear hK
            gi_wp2
            exact HK.out
          case body3 =>
            rintro l pre ⟨i, hi⟩ W' hl ⟨lr, hlr⟩ ⟨hs, hE⟩ hlt
            simp only [List.setIfInBounds_toArray, List.set_cons_succ, List.set_cons_zero]
            have hv := HP8.out.val i hi
            rw [hv]
            have hln : (Lib.byteCells ((valsI pre).flatMap lin)).length = pre.length * (Wn + 1) := by rw [Lib.byteCells_length, flat_len hlinl, valsI_len]
            have hl2 : (Lib.byteCells (lineL (pictL (cellsL ld) (cellsL r)) Wn i)).length = Wn := by rw [Lib.byteCells_length]; simp [lineL]
            have hmul := Nat.mul_le_mul (show pre.length ≤ 256 by omega) (show Wn + 1 ≤ 257 by omega)
            have hq := HP8.out.lt i hi
            have hW := HP8.out.cell i
            have hbs := hE.size
            have hwr := write_k b b (Lib.byteCells ((valsI pre).flatMap lin)) ⟨q i, 0, none⟩ Wn (c i) (Lib.byteCells (lineL (pictL (cellsL ld) (cellsL r)) Wn i)) W' hs hl2
              (fun j u hj => by
                have hjl : j < Wn := by
                  have := (List.getElem?_eq_some_iff.1 hj).1
                  simpa [Lib.byteCells, lineL] using this
                have hu : u = .int .u8 (((pictL (cellsL ld) (cellsL r)) i j).toNat : Int) := by
                  simp [Lib.byteCells, lineL, hjl] at hj
                  exact hj.symm
                subst hu
                have h := (hE.cell (p := ⟨q i, j, none⟩) (show q i < b by omega)).trans (hW j hi hjl)
                rw [addr_add0]
                exact h)
              (by show q i < b; omega) (fun u hu => by
                obtain ⟨x, -, rfl⟩ := List.mem_map.1 hu
                rfl) (by omega) (by rw [hln]; omega) (by omega)
            have HWR := Lib.hid hwr
            have HS3 := Lib.hid hs
            have HE3 := Lib.hid hE
            have hbw : b ≤ W'.heap.size := by omega
            have HLEN := Lib.hid (And.intro hl2 (And.intro hln hmul))
            clear hwr hs hE hl2 hln hmul hW hv hlr s8
            gi_wp2_with fail
            refine ⟨trivial, (CallsIn.inRound l (callsIn_wide.2 HWR.out)).mono ?_⟩
            rintro e wa ⟨rfl, hsa, hba, hka⟩
            have hza := hba.size
            have hwb := writeByte_k b b _ 10 wa hsa (by rw [List.length_append, HLEN.out.1, HLEN.out.2.1]; have := HLEN.out.2.2; omega) (by omega)
            have HWB := Lib.hid hwb
            have HKA := Lib.hid hka
            have HBA := Lib.hid hba
            clear hwb hka hsa hba HWR
            gi_wp2_with fail
            refine ⟨trivial, (CallsIn.inRound l (callsIn_wide.2 HWB.out)).mono ?_⟩
            rintro e wb ⟨rfl, hsb, hbb, hkb⟩
            have hz := hbb.size
            obtain ⟨hbl, bx, by', hbk⟩ := HS3.out.block
            have hkk := HKA.out.trans hkb
            have hend : KeepsFrom w8.heap.size W' wb ∧ KpB b W' wb ∧ (Bld b b (Lib.byteCells ((valsI (H := Hn) (pre ++ [⟨i, hi⟩])).flatMap lin)) wb ∧ Below b w8 wb) := by
              refine ⟨(Lib.OthersKept.others hkk hbk (by omega)).from _, ⟨HBA.out.trans hbb, fun k c f e => hkk k _ e (fun e2 => ?_) (fun c2 f2 e2 => by cases e2)⟩, ?_, (HE3.out.trans HBA.out).trans hbb⟩
              · cases e2
                rw [hbk] at e
                cases e
              · have h : Lib.byteCells ((valsI (H := Hn) (pre ++ [⟨i, hi⟩])).flatMap lin) = Lib.byteCells ((valsI pre).flatMap lin) ++ Lib.byteCells (lineL (pictL (cellsL ld) (cellsL r)) Wn i) ++ [.int .u8 10] := by
                  rw [valsI_snoc, List.flatMap_append, ← hlin]
                  simp [Lib.byteCells]
                rw [h]
                exact hsb
            have HEND := Lib.hid hend
            clear hend hkk hbk hsb hbb hkb HKA HBA HS3 HE3 HWB
            gi_wp2_with fail
            exact HEND.out
          case stop3 =>
            rintro D c pre W' _ _ h _
            exact h.elim
          case done3 =>
            rintro D3 ys W9 hD3 hys ⟨hs, hE⟩ hK3
            have hz9 := hE.size
            have hK := (hE.block D (by omega)).trans hK
            have hK2 := (hE.block D2 hDl2).trans hK2
            have bw9 := bw8.trans (hE.mono (by omega))
            have hstr := Try.string_k b b ((valsI ys).flatMap lin) W9 hs (by omega)
            have hres : ((valsI ys).flatMap lin) = drawL Wn Hn (cellsL ld) (cellsL r) := by
              have h1 : valsI ys = downs Hn Hn := hys
              rw [drawL, h1, ← hlin]
            obtain ⟨hbl, bx, by', hbk⟩ := hs.block
            rw [hres] at hstr
            have HSTR := Lib.hid hstr
            clear hstr hres hs hE hys hseq
            dsimp only
            go_wp2_with fail
            refine HSTR.out.mono ?_
            rintro e wz ⟨rfl, hsz, hbz, hkz⟩
            have hK3 := hkz D3 _ hK3 (fun e => by cases e; rw [hbk] at hK3; cases hK3) (fun c f e => by cases e)
            have hK2 := (hbz.block D2 hDl2).trans hK2
            have hK := (hbz.block D (by omega)).trans hK
            have bwz := bw9.trans (hbz.mono (by omega))
            clear hsz hbz hkz HSTR hbk
            go_wp2_with fail
            refine ⟨by simp, .inl ⟨_, _, rfl, run_takeDeferred hK3, ?_⟩⟩
            have k2 := (World.putObj_heap_other (w := wz) (r := D3) (o := .deferred none) (k := D2) (by omega)).trans hK2
            refine ⟨by simp, .inl ⟨_, _, rfl, run_takeDeferred k2, ?_⟩⟩
            have k1 := (World.putObj_heap_other (w := wz.putObj D3 (.deferred none)) (r := D2) (o := .deferred none) (k := D) (by omega)).trans ((World.putObj_heap_other (w := wz) (r := D3) (o := .deferred none) (k := D) (by omega)).trans hK)
            refine ⟨by simp, .inl ⟨_, _, rfl, run_takeDeferred k1, ?_⟩⟩
            have h5 := H5.out
            refine ⟨.string ⟨(drawL Wn Hn (cellsL ld) (cellsL r)).toArray⟩, by simp [results, Try.results42, go_sem], by simp, ?_⟩
            rw [HBw.out]
            refine ((bwz.trans (belowK_b (w := w5) h5.1 wz D3 _ _ (by omega) hK3 rfl rfl)).trans (belowK_b (w := w5) h5.1 _ D2 _ _ (by omega) k2 rfl rfl)).trans (belowK_b (w := w5) h5.1 _ D _ _ (by omega) k1 rfl rfl)
end Go.Proofs.Ytnbdnnbeiohmgaa
