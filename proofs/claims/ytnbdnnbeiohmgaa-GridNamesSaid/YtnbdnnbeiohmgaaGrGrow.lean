/- grid.Grow. -/
import Derived.Test.YtnbdnnbeiohmgaaGrGrowF
import Derived.Deep.Cut
import Derived.Deep.Light
import Derived.Deep.CutRange
import Derived.BigGuard
namespace Go.Proofs.Ytnbdnnbeiohmgaa
open Go.RowKit Go.Shelf

def leadOf (S a b c d : Int) : Lead := { we := a / S, ea := (S - 1 + c) / S, so := b / S, no := (S - 1 + d) / S }
theorem pushB_iff {a b c d : Int} (h : pushB a b c d = true) : (-16777216 ≤ a ∧ a ≤ c) ∧ (-16777216 ≤ b ∧ b ≤ d) ∧ c ≤ 16777216 ∧ d ≤ 16777216 := by
  simp only [pushB, inB, Bool.and_eq_true, decide_eq_true_eq] at h
  omega
theorem div_in {n S : Int} (hS : 1 ≤ S) (hn : -33554432 ≤ n ∧ n ≤ 33554432) : -33554432 ≤ n / S ∧ n / S ≤ 33554432 := by
  constructor
  · exact (Int.le_ediv_iff_mul_le (by omega)).2 (by omega)
  · rcases Int.lt_or_le n 0 with h | h
    · have : n / S < 0 := Int.ediv_neg_of_neg_of_pos h (by omega)
      omega
    · have := Int.ediv_le_self S h
      omega

/-- the runs of a valid region lie in its rows -/
theorem right_rows {W H : Int} : ∀ {l : List R3} {p : R3}, rightL W H p l = true → ∀ r, r ∈ l → 0 ≤ r.1 ∧ r.1 ≤ H - 1 ∧ 0 ≤ r.2.1 ∧ r.2.1 ≤ wrap64 (r.2.2 - 1) ∧ r.2.2 ≤ W
  | [], _, _, r, hr => by simp at hr
  | x :: l, p, h, r, hr => by
    simp only [rightL, Bool.and_eq_true] at h
    rcases List.mem_cons.1 hr with e | e
    · subst e
      have h1 := h.1
      simp only [okR, inB, Bool.and_eq_true, decide_eq_true_eq] at h1
      omega
    · exact right_rows h.2 r e

set_option maxRecDepth 100000 in
set_option maxHeartbeats 16000000 in
/-- the loop of Grow over the runs, and what follows -/
theorem grow_gr (W H S a b c d : Int) (vL v : Value) (ld l : List R3) (w : World) (hLd : Runs w vL ld) (hl : Runs w v l) (hok : checkRs W H S ld [l] = true) (hp : pushB a b c d = true) :
    Calls Try.prog 11 #[.agg #[.int .i64 W, .int .i64 H, .int .i64 S, vL], v, .agg #[.int .i64 a, .int .i64 b, .int .i64 c, .int .i64 d]] w fun e w' =>
      (∃ R, RegOf (growF W H (leadOf S a b c d) l) R ∧ ∃ v', e = .returned (.tuple #[v', .bool (if R.length ≤ 8192 then offL W H (leadOf S a b c d) l else false), .int .i64 (if R.length ≤ 8192 then 0 else 3)]) ∧ Runs w' v' (if R.length ≤ 8192 then R else [])) ∧ Below w.heap.size w w' := by
  have hok' := hok
  simp only [checkRs, List.all_cons, List.all_nil, Bool.and_true, Bool.and_eq_true] at hok'
  obtain ⟨hW, hH, hS, -⟩ := checkG_iff hok'.1
  have hrB := hok'.2
  simp only [rightB, Bool.and_eq_true, decide_eq_true_eq] at hrB
  have hrows := Lib.hid (right_rows hrB.1)
  have hlen := hrB.2
  clear hok' hrB
  obtain ⟨pa, pb, pc, pd⟩ := pushB_iff hp
  obtain ⟨n, hn⟩ : ∃ n, l.length = n := ⟨_, rfl⟩
  rw [hn] at hlen
  obtain ⟨A, cap, rfl, -, hcap, -⟩ := (show Runs w v l from hl)
  unfold maxLen at hcap
  have HL := Lib.hid hl
  have HLd := Lib.hid hLd
  clear hl hLd
  rw [hn] at HL ⊢
  go_enter Try.func11, Try.ntmps11
  go_wp2_with fail
  have b1 : Below w.heap.size w ((w.alloc (.cells #[.int .i64 W, .int .i64 H, .int .i64 S, vL] 24)).alloc (.cells #[.int .i64 a, .int .i64 b, .int .i64 c, .int .i64 d] 28)) := ((Below.refl w.heap.size w).alloc (Nat.le_refl _) _).alloc (by simp) _
  have c0 : ((w.alloc (.cells #[.int .i64 W, .int .i64 H, .int .i64 S, vL] 24)).alloc (.cells #[.int .i64 a, .int .i64 b, .int .i64 c, .int .i64 d] 28)).cell? ⟨w.heap.size, 0, none⟩ = some (.int .i64 W) := by simp [go_sem]
  have c1 : ((w.alloc (.cells #[.int .i64 W, .int .i64 H, .int .i64 S, vL] 24)).alloc (.cells #[.int .i64 a, .int .i64 b, .int .i64 c, .int .i64 d] 28)).cell? ⟨w.heap.size, 1, none⟩ = some (.int .i64 H) := by simp [go_sem]
  have c2 : ((w.alloc (.cells #[.int .i64 W, .int .i64 H, .int .i64 S, vL] 24)).alloc (.cells #[.int .i64 a, .int .i64 b, .int .i64 c, .int .i64 d] 28)).cell? ⟨w.heap.size, 2, none⟩ = some (.int .i64 S) := by simp [go_sem]
  have c3 : ((w.alloc (.cells #[.int .i64 W, .int .i64 H, .int .i64 S, vL] 24)).alloc (.cells #[.int .i64 a, .int .i64 b, .int .i64 c, .int .i64 d] 28)).cell? ⟨w.heap.size, 3, none⟩ = some vL := by simp [go_sem]
  have p0 : ((w.alloc (.cells #[.int .i64 W, .int .i64 H, .int .i64 S, vL] 24)).alloc (.cells #[.int .i64 a, .int .i64 b, .int .i64 c, .int .i64 d] 28)).cell? ⟨w.heap.size + 1, 0, none⟩ = some (.int .i64 a) := by simp [go_sem]
  have p1 : ((w.alloc (.cells #[.int .i64 W, .int .i64 H, .int .i64 S, vL] 24)).alloc (.cells #[.int .i64 a, .int .i64 b, .int .i64 c, .int .i64 d] 28)).cell? ⟨w.heap.size + 1, 1, none⟩ = some (.int .i64 b) := by simp [go_sem]
  have p2 : ((w.alloc (.cells #[.int .i64 W, .int .i64 H, .int .i64 S, vL] 24)).alloc (.cells #[.int .i64 a, .int .i64 b, .int .i64 c, .int .i64 d] 28)).cell? ⟨w.heap.size + 1, 2, none⟩ = some (.int .i64 c) := by simp [go_sem]
  have p3 : ((w.alloc (.cells #[.int .i64 W, .int .i64 H, .int .i64 S, vL] 24)).alloc (.cells #[.int .i64 a, .int .i64 b, .int .i64 c, .int .i64 d] 28)).cell? ⟨w.heap.size + 1, 3, none⟩ = some (.int .i64 d) := by simp [go_sem]
  have hz1 : w.heap.size + 1 + 1 = ((w.alloc (.cells #[.int .i64 W, .int .i64 H, .int .i64 S, vL] 24)).alloc (.cells #[.int .i64 a, .int .i64 b, .int .i64 c, .int .i64 d] 28)).heap.size := by simp
  obtain ⟨w1, hw1⟩ : ∃ w1, ((w.alloc (.cells #[.int .i64 W, .int .i64 H, .int .i64 S, vL] 24)).alloc (.cells #[.int .i64 a, .int .i64 b, .int .i64 c, .int .i64 d] 28)) = w1 := ⟨_, rfl⟩
  rw [hw1] at b1 c0 c1 c2 c3 p0 p1 p2 p3 hz1 ⊢
  clear hw1
  have b1' := b1.alloc (by omega) (.cells #[.slice A n cap] 22)
  have hchk := checked_gr W H S vL (.slice (some ⟨w1.heap.size, 0, none⟩) 1 1) ld [.slice A n cap] [l] (w1.alloc (.cells #[.slice A n cap] 22)) (HLd.out.below b1') (Lst_lit (enc := enc1) (k := 1) (fun _ => rfl) w1 w1.heap.size 1 rfl #[.slice A n cap] [.slice A n cap] 22 rfl rfl (by unfold maxLen; omega)) rfl (fun i u x hu hx => by
    match i, hu, hx with
    | 0, hu, hx => simp at hu hx; subst hu hx; exact HL.out.below b1'
    | i + 1, hu, hx => simp at hu)
  rw [hok, argE_true] at hchk
  have w1b : Below w1.heap.size w1 (w1.alloc (.cells #[.slice A n cap] 22)) := (Below.refl _ _).alloc (Nat.le_refl _) _
  rw [hz1]
  refine hchk.mono ?_
  rintro e w2 ⟨rfl, hb2⟩
  have b12 := w1b.trans (hb2.mono w1b.size)
  obtain ⟨B, hB⟩ : ∃ B, w.heap.size = B := ⟨_, rfl⟩
  rw [hB] at b1 c0 c1 c2 c3 p0 p1 p2 p3 hz1 ⊢
  have c0 := (b12.cell (p := ⟨B, 0, none⟩) (by show B < w1.heap.size; omega)).trans c0
  have c1 := (b12.cell (p := ⟨B, 1, none⟩) (by show B < w1.heap.size; omega)).trans c1
  have c2 := (b12.cell (p := ⟨B, 2, none⟩) (by show B < w1.heap.size; omega)).trans c2
  have c3 := (b12.cell (p := ⟨B, 3, none⟩) (by show B < w1.heap.size; omega)).trans c3
  have p0 := (b12.cell (p := ⟨B + 1, 0, none⟩) (by show B + 1 < w1.heap.size; omega)).trans p0
  have p1 := (b12.cell (p := ⟨B + 1, 1, none⟩) (by show B + 1 < w1.heap.size; omega)).trans p1
  have p2 := (b12.cell (p := ⟨B + 1, 2, none⟩) (by show B + 1 < w1.heap.size; omega)).trans p2
  have p3 := (b12.cell (p := ⟨B + 1, 3, none⟩) (by show B + 1 < w1.heap.size; omega)).trans p3
  have b2 := b1.trans (b12.mono (by omega))
  have hz2 := b12.size
  clear hchk w1b hb2 b12 b1 b1'
  go_wp2_with fail
  refine (pushed_gr a b c d _).mono ?_
  rintro e w3 ⟨rfl, hb3⟩
  rw [hp]
  have c0 := (hb3.cell (p := ⟨B, 0, none⟩) (by show B < w2.heap.size; omega)).trans c0
  have c1 := (hb3.cell (p := ⟨B, 1, none⟩) (by show B < w2.heap.size; omega)).trans c1
  have c2 := (hb3.cell (p := ⟨B, 2, none⟩) (by show B < w2.heap.size; omega)).trans c2
  have c3 := (hb3.cell (p := ⟨B, 3, none⟩) (by show B < w2.heap.size; omega)).trans c3
  have p0 := (hb3.cell (p := ⟨B + 1, 0, none⟩) (by show B + 1 < w2.heap.size; omega)).trans p0
  have p1 := (hb3.cell (p := ⟨B + 1, 1, none⟩) (by show B + 1 < w2.heap.size; omega)).trans p1
  have p2 := (hb3.cell (p := ⟨B + 1, 2, none⟩) (by show B + 1 < w2.heap.size; omega)).trans p2
  have p3 := (hb3.cell (p := ⟨B + 1, 3, none⟩) (by show B + 1 < w2.heap.size; omega)).trans p3
  have b3 := b2.trans (hb3.mono (by omega))
  have hz3 := hb3.size
  clear hb3 b2
  go_wp2_with fail
  refine (leads_gr W H S a c vL _ hS (by omega) (by omega)).mono ?_
  rintro e w4 ⟨rfl, hb4⟩
  have c0 := (hb4.cell (p := ⟨B, 0, none⟩) (by show B < w3.heap.size; omega)).trans c0
  have c1 := (hb4.cell (p := ⟨B, 1, none⟩) (by show B < w3.heap.size; omega)).trans c1
  have c2 := (hb4.cell (p := ⟨B, 2, none⟩) (by show B < w3.heap.size; omega)).trans c2
  have c3 := (hb4.cell (p := ⟨B, 3, none⟩) (by show B < w3.heap.size; omega)).trans c3
  have p0 := (hb4.cell (p := ⟨B + 1, 0, none⟩) (by show B + 1 < w3.heap.size; omega)).trans p0
  have p1 := (hb4.cell (p := ⟨B + 1, 1, none⟩) (by show B + 1 < w3.heap.size; omega)).trans p1
  have p2 := (hb4.cell (p := ⟨B + 1, 2, none⟩) (by show B + 1 < w3.heap.size; omega)).trans p2
  have p3 := (hb4.cell (p := ⟨B + 1, 3, none⟩) (by show B + 1 < w3.heap.size; omega)).trans p3
  have b4 := b3.trans (hb4.mono (by omega))
  have hz4 := hb4.size
  clear hb4 b3
  go_wp2_with fail
  refine (leads_gr W H S b d vL _ hS (by omega) (by omega)).mono ?_
  rintro e w5 ⟨rfl, hb5⟩
  have c0 := (hb5.cell (p := ⟨B, 0, none⟩) (by show B < w4.heap.size; omega)).trans c0
  have c1 := (hb5.cell (p := ⟨B, 1, none⟩) (by show B < w4.heap.size; omega)).trans c1
  have c2 := (hb5.cell (p := ⟨B, 2, none⟩) (by show B < w4.heap.size; omega)).trans c2
  have c3 := (hb5.cell (p := ⟨B, 3, none⟩) (by show B < w4.heap.size; omega)).trans c3
  have b5 := b4.trans (hb5.mono (by omega))
  have hz5 := hb5.size
  have l1 := div_in (n := a) hS.1 (by omega)
  have l2 := div_in (n := S - 1 + c) hS.1 (by omega)
  have l3 := div_in (n := b) hS.1 (by omega)
  have l4 := div_in (n := S - 1 + d) hS.1 (by omega)
  obtain ⟨L, hLd⟩ : ∃ L, leadOf S a b c d = L := ⟨_, rfl⟩
  have e1 : a / S = L.we := by rw [← hLd]; rfl
  have e2 : (S - 1 + c) / S = L.ea := by rw [← hLd]; rfl
  have e3 : b / S = L.so := by rw [← hLd]; rfl
  have e4 : (S - 1 + d) / S = L.no := by rw [← hLd]; rfl
  rw [e1] at l1
  rw [e2] at l2
  rw [e3] at l3
  rw [e4] at l4
  rw [e1, e2, e3, e4]
  clear e1 e2 e3 e4 hb5 b4 p0 p1 p2 p3
  go_wp2_with fail
  obtain ⟨T, hT⟩ : ∃ T, w5.heap.size = T := ⟨_, rfl⟩
  have T0 := Tab.new w5 T hT
  have b6 := b5.alloc (by omega) (.cells Try.zeroCells100 100)
  have c0 := (World.cell?_alloc_lt w5 (.cells Try.zeroCells100 100) ⟨B, 0, none⟩ (by show B < w5.heap.size; omega)).trans c0
  have c1 := (World.cell?_alloc_lt w5 (.cells Try.zeroCells100 100) ⟨B, 1, none⟩ (by show B < w5.heap.size; omega)).trans c1
  have c2 := (World.cell?_alloc_lt w5 (.cells Try.zeroCells100 100) ⟨B, 2, none⟩ (by show B < w5.heap.size; omega)).trans c2
  have c3 := (World.cell?_alloc_lt w5 (.cells Try.zeroCells100 100) ⟨B, 3, none⟩ (by show B < w5.heap.size; omega)).trans c3
  rw [hT]
  obtain ⟨w6, hw6⟩ : ∃ w6, w5.alloc (.cells Try.zeroCells100 100) = w6 := ⟨_, rfl⟩
  rw [hw6] at T0 b6 c0 c1 c2 c3 ⊢
  have hBT : B < T := by omega
  clear hw6 b5 hz1 hz2 hz3 hz4 hz5 hT
  have T0' : Tab w6 T (fun _ => .slice none 0 0) (growF W H L (l.take 0)) := T0
  have hLw := Lib.hid hLd
  clear T0 hLd
  go_loopw [7, 53] (fun off i wr => ∃ k : Nat, k ≤ n ∧ i = .int .i64 k ∧ off = .bool (offL W H L (l.take k)) ∧ (∃ vs, Tab wr T vs (growF W H L (l.take k))) ∧ wr.cell? ⟨B, 0, none⟩ = some (.int .i64 W) ∧ wr.cell? ⟨B, 1, none⟩ = some (.int .i64 H) ∧ wr.cell? ⟨B, 2, none⟩ = some (.int .i64 S) ∧ wr.cell? ⟨B, 3, none⟩ = some vL ∧ Below B w wr) (fun _ i _ => n - (intOf i).toNat)
  case atStart => exact ⟨0, Nat.zero_le _, rfl, rfl, ⟨_, T0'⟩, c0, c1, c2, c3, by rw [← hB]; rw [← hB] at b6; exact b6⟩
  case round =>
    obtain ⟨k, hk, rfl, rfl, ⟨vs, hT⟩, d0, d1, d2, d3, hb⟩ := hrel
    clear c0 c1 c2 c3 T0' b6
    have hTl := hT.lt
    have hBw : B < wr.heap.size := by omega
    by_cases hlt : k < n
    · obtain ⟨⟨y, f, t⟩, hx⟩ : ∃ x, l[k]? = some x := ⟨_, List.getElem?_eq_getElem (by omega)⟩
      have hr := hrows.out (y, f, t) (List.mem_of_getElem? hx)
      obtain ⟨bb, off, rfl, m0, m1, m2, hbb⟩ : ∃ bb off, A = some ⟨bb, off, none⟩ ∧ wr.cell? ⟨bb, off + k * 3, none⟩ = some (.int .i64 y) ∧ wr.cell? ⟨bb, off + k * 3 + 1, none⟩ = some (.int .i64 f) ∧ wr.cell? ⟨bb, off + k * 3 + 2, none⟩ = some (.int .i64 t) ∧ bb < wr.heap.size := by
        have hrr := HL.out.below (by rw [hB]; exact hb)
        obtain ⟨A', c', e, -, -, h3⟩ := hrr
        simp only [Value.slice.injEq] at e
        obtain ⟨rfl, -, -⟩ := e
        obtain ⟨bb, off, rfl, hbl, hc⟩ := h3 (by omega)
        exact ⟨bb, off, rfl, hc k 0 _ _ hx rfl, hc k 1 _ _ hx rfl, hc k 2 _ _ hx rfl, hbl⟩
      have hkn : (k : Int) < n := by omega
      have hg := growF_take (W := W) (H := H) (L := L) hx
      have ho := offL_take (W := W) (H := H) (L := L) hx
      have HG := Lib.hid hg
      have HO := Lib.hid ho
      clear hg ho hx
      dsimp only at hr
      go_upto_region 9 with fail
      have hre : Below wr.heap.size wr (wr.alloc (.cells #[.int .i64 y, .int .i64 f, .int .i64 t] 72)) := (Below.refl _ _).alloc (Nat.le_refl _) _
      have hT2 := hT.below hre
      have hXv0 : ∀ i, i < 256 → (vs i).ownBlock ≠ some wr.heap.size := fun i hi e => by have := (ownBlock_lt (hT.own i hi) e).2; omega
      have hXv := Lib.hid hXv0
      clear hXv0
      have d0 := (hre.cell (p := ⟨B, 0, none⟩) hBw).trans d0
      have d1 := (hre.cell (p := ⟨B, 1, none⟩) hBw).trans d1
      have d2 := (hre.cell (p := ⟨B, 2, none⟩) hBw).trans d2
      have d3 := (hre.cell (p := ⟨B, 3, none⟩) hBw).trans d3
      have r0 : (wr.alloc (.cells #[.int .i64 y, .int .i64 f, .int .i64 t] 72)).cell? ⟨wr.heap.size, 0, none⟩ = some (.int .i64 y) := by simp [go_sem]
      have r1 : (wr.alloc (.cells #[.int .i64 y, .int .i64 f, .int .i64 t] 72)).cell? ⟨wr.heap.size, 1, none⟩ = some (.int .i64 f) := by simp [go_sem]
      have r2 : (wr.alloc (.cells #[.int .i64 y, .int .i64 f, .int .i64 t] 72)).cell? ⟨wr.heap.size, 2, none⟩ = some (.int .i64 t) := by simp [go_sem]
      have hb2 := hb.trans (hre.mono (by omega))
      have hze : wr.heap.size < (wr.alloc (.cells #[.int .i64 y, .int .i64 f, .int .i64 t] 72)).heap.size := by simp
      obtain ⟨X, hX⟩ : ∃ X, wr.heap.size = X := ⟨_, rfl⟩
      obtain ⟨we, hwe⟩ : ∃ we, wr.alloc (.cells #[.int .i64 y, .int .i64 f, .int .i64 t] 72) = we := ⟨_, rfl⟩
      rw [hwe] at hT2 d0 d1 d2 d3 r0 r1 r2 hb2 hze ⊢
      rw [hX] at r0 r1 r2 hze hTl hBw hXv ⊢
      clear hwe hre hT m0 m1 m2 hbb
      obtain ⟨o0, ho0⟩ : ∃ o, offL W H L (l.take k) = o := ⟨_, rfl⟩
      rw [ho0] at HO ⊢
      have ey1 : wrap64 (y + L.so) = y + L.so := wrapId _ (by omega) (by omega)
      have ey2 : wrap64 (y + L.no) = y + L.no := wrapId _ (by omega) (by omega)
      go_cut [7, 53] from 53 to 119 (fun o i wx => o = .bool (o0 || offR W H L (y, f, t)) ∧ i = .int .i64 k ∧ we = wx)
      case first =>
        go_wp2_with fail
        all_goals
          go_meet
          go_light
        all_goals
          refine ⟨congrArg Value.bool ?_, rfl, rfl⟩
          simp only [offR]
          simp [*]
      case rest =>
        obtain ⟨rfl, rfl, rfl⟩ := hcut
        have eH : wrap64 (H - 1) = H - 1 := wrapId _ (by omega) (by omega)
        obtain ⟨fa, hfa⟩ : ∃ q, wrap64 (f + L.we) = q := ⟨_, rfl⟩
        obtain ⟨ta, hta⟩ : ∃ q, wrap64 (t + L.ea) = q := ⟨_, rfl⟩
        obtain ⟨hi, hhi⟩ : ∃ q, min (y + L.no) (H - 1) = q := ⟨_, rfl⟩
        obtain ⟨y0, hy0⟩ : ∃ q : Nat, max 0 (y + L.so) = (q : Int) := ⟨(max 0 (y + L.so)).toNat, by omega⟩
        obtain ⟨fE, hfE⟩ : ∃ q, growF W H L (l.take (k + 1)) = q := ⟨_, rfl⟩
        have hst : addRows W H fa ta (hi + 1 - y0).toNat y0 (growF W H L (l.take k)) = fE := by
          rw [← hfE, HG.out, growOne]
          dsimp only
          rw [hfa, hta, hhi, hy0, Int.toNat_natCast]
        have hlen0 : ∀ i, (growF W H L (l.take k) i).length ≤ k := fun i => by
          have := growF_len W H L (l.take k) i
          have h2 : (l.take k).length ≤ k := by simp; omega
          omega
        have HS := Lib.hid hst
        have HN := Lib.hid hlen0
        have HE := Lib.hid hfE
        clear hst hlen0 hfE
        go_wp2_with fail
        go_loopw [16] (fun i wq => ∃ yy : Nat, i = .int .i64 yy ∧ (∃ vs fc, Tab wq T vs fc ∧ (∀ i, i < 256 → (vs i).ownBlock ≠ some X) ∧ addRows W H fa ta (hi + 1 - yy).toNat yy fc = fE ∧ ∀ i, (fc i).length ≤ k + (if yy ≤ i then 0 else 1)) ∧
            wq.cell? ⟨B, 0, none⟩ = some (.int .i64 W) ∧ wq.cell? ⟨B, 1, none⟩ = some (.int .i64 H) ∧ wq.cell? ⟨B, 2, none⟩ = some (.int .i64 S) ∧ wq.cell? ⟨B, 3, none⟩ = some vL ∧ wq.cell? ⟨X, 0, none⟩ = some (.int .i64 y) ∧ wq.cell? ⟨X, 1, none⟩ = some (.int .i64 f) ∧ wq.cell? ⟨X, 2, none⟩ = some (.int .i64 t) ∧ X < wq.heap.size ∧ Below B w wq) (fun i _ => (300 - intOf i).toNat)
        case atStart => exact ⟨y0, rfl, ⟨_, _, hT2, hXv.out, HS.out, fun i => by have := HN.out i; omega⟩, d0, d1, d2, d3, r0, r1, r2, hze, hb2⟩
        case round =>
          obtain ⟨yy, rfl, ⟨vs2, fc, hTc, hvX, hrun, hfl⟩, g0, g1, g2, g3, x0, x1, x2, hXl, hbq⟩ := hrel
          clear d0 d1 d2 d3 r0 r1 r2 hze hb2 hT2
          have hTc1 := hTc.lt
          by_cases hyh : (yy : Int) ≤ hi
          · have hadd := add_gr W H S yy fa ta vL T vs2 fc wr hW hH hTc (fun i _ => by have := hfl i; split at this <;> omega)
            have HA := Lib.hid hadd
            have HF := Lib.hid hfl
            have HV := Lib.hid hvX
            have HRn := Lib.hid hrun
            have HT := Lib.hid hTc
            clear hadd hfl hvX hrun hTc
            go_wp2_with fail
            refine HA.out.mono ?_
            rintro e w4 ⟨rfl, ⟨vs3, hT4, hun⟩, hb4⟩
            obtain ⟨ux, uv⟩ := hun X hXl (by omega) HV.out
            go_wp2_with fail
            go_roundw
            case rel =>
              refine ⟨yy + 1, by go_num, ⟨vs3, _, hT4, uv, ?_, fun i => ?_⟩, (hb4.cell (p := ⟨B, 0, none⟩) hBT).trans g0, (hb4.cell (p := ⟨B, 1, none⟩) hBT).trans g1, (hb4.cell (p := ⟨B, 2, none⟩) hBT).trans g2, (hb4.cell (p := ⟨B, 3, none⟩) hBT).trans g3,
                (World.cell?_of_block (a := ⟨X, 0, none⟩) ux).trans x0, (World.cell?_of_block (a := ⟨X, 1, none⟩) ux).trans x1, (World.cell?_of_block (a := ⟨X, 2, none⟩) ux).trans x2, Nat.lt_of_lt_of_le hXl hb4.size, hbq.trans (hb4.mono (by omega))⟩
              · rw [← HRn.out, show (hi + 1 - (yy : Int)).toNat = (hi + 1 - ((yy + 1 : Nat) : Int)).toNat + 1 by omega]
                rfl
              · have h1 := HF.out i
                by_cases e : i = yy
                · subst e
                  have h2 := addF_len W H i fa ta fc i
                  rw [if_pos (Nat.le_refl _)] at h1
                  rw [if_neg (by omega)]
                  omega
                · rw [addF_other (by simpa using e)]
                  by_cases hyi : yy ≤ i
                  · rw [if_pos hyi] at h1
                    rw [if_pos (by omega)]
                    exact h1
                  · rw [if_neg hyi] at h1
                    rw [if_neg (by omega)]
                    exact h1
            case measure => simp [intOf]; omega
          · have hz : (hi + 1 - (yy : Int)).toNat = 0 := by omega
            rw [hz] at hrun
            have hfe : fc = fE := hrun
            subst hfe
            have HT := Lib.hid hTc
            have hyh' : hi < (yy : Int) := by omega
            clear hrun hfl hvX hTc
            go_wp2_with fail
            go_roundw
            case rel => exact ⟨k + 1, by omega, by go_num, by rw [HO.out], ⟨vs2, by rw [HE.out]; exact HT.out⟩, g0, g1, g2, g3, hbq⟩
            case measure => simp [intOf]; omega
    · have hke : k = n := by omega
      subst hke
      rw [List.take_of_length_le (by omega)] at hT ⊢
      have hreg := region_gr T vs (growF W H L l) wr hT (fun i _ => by have := growF_len W H L l i; omega) (fun i _ s hs => by have := growF_mem hs; omega)
      have HRg := Lib.hid hreg
      obtain ⟨o0, ho0⟩ : ∃ o, offL W H L l = o := ⟨_, rfl⟩
      rw [ho0]
      have HO0 := Lib.hid ho0
      clear hreg hT ho0
      go_wp2_with fail
      refine HRg.out.mono ?_
      rintro e w7 ⟨⟨R, hR, v', rfl, hv'⟩, hb7⟩
      have HR := Lib.hid hR
      have HV := Lib.hid hv'
      have hb8 := hb.trans (hb7.mono (by omega))
      have HB8 := Lib.hid hb8
      clear hR hv' hb7 hb8 d0 d1 d2 d3 hb
      by_cases hRl : R.length ≤ 8192
      · rw [if_pos hRl]
        go_wp2_with fail
        refine bodyPost_ret (v := .tuple #[v', .bool o0, .int .i64 0]) (by simp [results, Try.results11, go_sem]) rfl ⟨⟨R, by rw [hLw.out]; exact HR.out, v', by rw [if_pos hRl, if_pos hRl, hLw.out, HO0.out], HV.out⟩, by rw [hB]; exact HB8.out⟩
      · rw [if_neg hRl]
        go_wp2_with fail
        refine bodyPost_ret (v := .tuple #[.slice none 0 0, .bool false, .int .i64 3]) (by simp [results, Try.results11, go_sem]) rfl ⟨⟨R, by rw [hLw.out]; exact HR.out, _, by rw [if_neg hRl, if_neg hRl], by rw [if_neg hRl]; exact Lst.nil _⟩, by rw [hB]; exact HB8.out⟩
end Go.Proofs.Ytnbdnnbeiohmgaa
