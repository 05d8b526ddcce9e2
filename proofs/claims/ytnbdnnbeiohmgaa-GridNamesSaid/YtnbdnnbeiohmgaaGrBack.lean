/- grid.Back. -/
import Derived.Test.YtnbdnnbeiohmgaaGrGrow
namespace Go.Proofs.Ytnbdnnbeiohmgaa
open Go.RowKit Go.Shelf

set_option maxRecDepth 100000 in
set_option maxHeartbeats 4000000 in
theorem back_gr (W H S a b c d : Int) (vL v : Value) (ld l : List R3) (w : World) (hLd : Runs w vL ld) (hl : Runs w v l) (hok : checkRs W H S ld [l] = true) (hp : pushB a b c d = true) :
    Calls Try.prog 16 #[.agg #[.int .i64 W, .int .i64 H, .int .i64 S, vL], v, .agg #[.int .i64 a, .int .i64 b, .int .i64 c, .int .i64 d]] w fun e w' =>
      (∃ R, RegOf (growF W H (leadOf S (-c) (-d) (-a) (-b)) l) R ∧ ∃ v', e = .returned (.tuple #[v', .int .i64 (if R.length ≤ 8192 then 0 else 3)]) ∧ Runs w' v' (if R.length ≤ 8192 then R else [])) ∧ Below w.heap.size w w' := by
  obtain ⟨pa, pb, pc, pd⟩ := pushB_iff hp
  have hp2 : pushB (-c) (-d) (-a) (-b) = true := by
    simp only [pushB, inB, Bool.and_eq_true, decide_eq_true_eq]
    omega
  have n1 : wrap64 (-a) = -a := wrapId _ (by omega) (by omega)
  have n2 : wrap64 (-b) = -b := wrapId _ (by omega) (by omega)
  have n3 : wrap64 (-c) = -c := wrapId _ (by omega) (by omega)
  have n4 : wrap64 (-d) = -d := wrapId _ (by omega) (by omega)
  obtain ⟨A, cap, rfl, -⟩ := (show Runs w v l from hl)
  obtain ⟨n, hn⟩ : ∃ n, l.length = n := ⟨_, rfl⟩
  rw [hn] at hl ⊢
  have HL := Lib.hid hl
  have HLd := Lib.hid hLd
  have HOk := Lib.hid hok
  have HP := Lib.hid hp
  clear hl hLd hn hok pa pb pc pd hp
  go_enter Try.func16, Try.ntmps16
  go_wp2_with fail
  have b1 : Below w.heap.size w ((w.alloc (.cells #[.int .i64 W, .int .i64 H, .int .i64 S, vL] 24)).alloc (.cells #[.int .i64 a, .int .i64 b, .int .i64 c, .int .i64 d] 28)) := ((Below.refl w.heap.size w).alloc (Nat.le_refl _) _).alloc (by simp) _
  have c0 : ((w.alloc (.cells #[.int .i64 W, .int .i64 H, .int .i64 S, vL] 24)).alloc (.cells #[.int .i64 a, .int .i64 b, .int .i64 c, .int .i64 d] 28)).cell? ⟨w.heap.size, 0, none⟩ = some (.int .i64 W) := by simp [go_sem]
  have c1 : ((w.alloc (.cells #[.int .i64 W, .int .i64 H, .int .i64 S, vL] 24)).alloc (.cells #[.int .i64 a, .int .i64 b, .int .i64 c, .int .i64 d] 28)).cell? ⟨w.heap.size, 1, none⟩ = some (.int .i64 H) := by simp [go_sem]
  have c2 : ((w.alloc (.cells #[.int .i64 W, .int .i64 H, .int .i64 S, vL] 24)).alloc (.cells #[.int .i64 a, .int .i64 b, .int .i64 c, .int .i64 d] 28)).cell? ⟨w.heap.size, 2, none⟩ = some (.int .i64 S) := by simp [go_sem]
  have c3 : ((w.alloc (.cells #[.int .i64 W, .int .i64 H, .int .i64 S, vL] 24)).alloc (.cells #[.int .i64 a, .int .i64 b, .int .i64 c, .int .i64 d] 28)).cell? ⟨w.heap.size, 3, none⟩ = some vL := by simp [go_sem]
  have p0 : ((w.alloc (.cells #[.int .i64 W, .int .i64 H, .int .i64 S, vL] 24)).alloc (.cells #[.int .i64 a, .int .i64 b, .int .i64 c, .int .i64 d] 28)).cell? ⟨w.heap.size + 1, 0, none⟩ = some (.int .i64 a) := by simp [go_sem]
  have p1 : ((w.alloc (.cells #[.int .i64 W, .int .i64 H, .int .i64 S, vL] 24)).alloc (.cells #[.int .i64 a, .int .i64 b, .int .i64 c, .int .i64 d] 28)).cell? ⟨w.heap.size + 1, 1, none⟩ = some (.int .i64 b) := by simp [go_sem]
  have p2 : ((w.alloc (.cells #[.int .i64 W, .int .i64 H, .int .i64 S, vL] 24)).alloc (.cells #[.int .i64 a, .int .i64 b, .int .i64 c, .int .i64 d] 28)).cell? ⟨w.heap.size + 1, 2, none⟩ = some (.int .i64 c) := by simp [go_sem]
  have p3 : ((w.alloc (.cells #[.int .i64 W, .int .i64 H, .int .i64 S, vL] 24)).alloc (.cells #[.int .i64 a, .int .i64 b, .int .i64 c, .int .i64 d] 28)).cell? ⟨w.heap.size + 1, 3, none⟩ = some (.int .i64 d) := by simp [go_sem]
  have hz1 : ((w.alloc (.cells #[.int .i64 W, .int .i64 H, .int .i64 S, vL] 24)).alloc (.cells #[.int .i64 a, .int .i64 b, .int .i64 c, .int .i64 d] 28)).heap.size = w.heap.size + 1 + 1 := by simp
  obtain ⟨w1, hw1⟩ : ∃ w1, ((w.alloc (.cells #[.int .i64 W, .int .i64 H, .int .i64 S, vL] 24)).alloc (.cells #[.int .i64 a, .int .i64 b, .int .i64 c, .int .i64 d] 28)) = w1 := ⟨_, rfl⟩
  rw [hw1] at b1 c0 c1 c2 c3 p0 p1 p2 p3 hz1 ⊢
  clear hw1
  obtain ⟨B, hB⟩ : ∃ B, w.heap.size = B := ⟨_, rfl⟩
  rw [hB] at b1 c0 c1 c2 c3 p0 p1 p2 p3 hz1 ⊢
  refine (pushed_gr a b c d _).mono ?_
  rintro e w2 ⟨rfl, hb2⟩
  rw [HP.out]
  have c0 := (hb2.cell (p := ⟨B, 0, none⟩) (by show B < w1.heap.size; omega)).trans c0
  have c1 := (hb2.cell (p := ⟨B, 1, none⟩) (by show B < w1.heap.size; omega)).trans c1
  have c2 := (hb2.cell (p := ⟨B, 2, none⟩) (by show B < w1.heap.size; omega)).trans c2
  have c3 := (hb2.cell (p := ⟨B, 3, none⟩) (by show B < w1.heap.size; omega)).trans c3
  have p0 := (hb2.cell (p := ⟨B + 1, 0, none⟩) (by show B + 1 < w1.heap.size; omega)).trans p0
  have p1 := (hb2.cell (p := ⟨B + 1, 1, none⟩) (by show B + 1 < w1.heap.size; omega)).trans p1
  have p2 := (hb2.cell (p := ⟨B + 1, 2, none⟩) (by show B + 1 < w1.heap.size; omega)).trans p2
  have p3 := (hb2.cell (p := ⟨B + 1, 3, none⟩) (by show B + 1 < w1.heap.size; omega)).trans p3
  have b2 := b1.trans (hb2.mono (by omega))
  have hz2 := hb2.size
  clear hb2 b1
  go_wp2_with fail
  refine (grow_gr W H S (-c) (-d) (-a) (-b) vL (.slice A n cap) ld l _ (HLd.out.below (by rw [hB]; exact b2)) (HL.out.below (by rw [hB]; exact b2)) HOk.out hp2).mono ?_
  rintro e w3 ⟨⟨R, hR, v', rfl, hv'⟩, hb3⟩
  have b3 := b2.trans (hb3.mono (by omega))
  have HR := Lib.hid hR
  have HV := Lib.hid hv'
  clear hb3 b2 hR hv'
  obtain ⟨E, hE⟩ : ∃ E : Int, (if R.length ≤ 8192 then 0 else 3) = E := ⟨_, rfl⟩
  obtain ⟨O, hO⟩ : ∃ O : Bool, (if R.length ≤ 8192 then offL W H (leadOf S (-c) (-d) (-a) (-b)) l else false) = O := ⟨_, rfl⟩
  rw [hE, hO]
  have HE := Lib.hid hE
  clear hE hO
  go_wp2_with fail
  exact bodyPost_ret (v := .tuple #[v', .int .i64 E]) (by simp [results, Try.results16, go_sem]) rfl ⟨⟨R, HR.out, v', by rw [HE.out], HV.out⟩, by rw [hB]; exact b3⟩
end Go.Proofs.Ytnbdnnbeiohmgaa
