/- GridMoves: pick, of, move. -/
import Derived.Deep.RegionHeld3
import Derived.Test.YtnbdnnbeiohmgaaGrA
namespace Go.Proofs.Ytnbdnnbeiohmgaa
open Go.RowKit

theorem tmod_in {t n : Int} (ht : 0 ≤ t) (hn : 1 ≤ n) : 0 ≤ t.tmod n ∧ t.tmod n < n := by
  rw [Int.tmod_eq_emod_of_nonneg ht]
  exact ⟨Int.emod_nonneg _ (by omega), Int.emod_lt_of_pos _ (by omega)⟩

theorem of_gr (a c t : Int) (w : World) (ha : -16777216 ≤ a ∧ a ≤ c) (hc : c ≤ 16777216) (ht : 0 ≤ t ∧ t ≤ 4294967295) :
    Calls Try.prog 58 #[.int .i64 a, .int .i64 c, .int .u32 t] w fun e w' => (∃ m, e = .returned (.int .i64 m) ∧ a ≤ m ∧ m ≤ c) ∧ w = w' := by
  obtain ⟨n, hn⟩ : ∃ n, c - a + 1 = n := ⟨_, rfl⟩
  obtain ⟨R, hR⟩ : ∃ R, t.tmod n = R := ⟨_, rfl⟩
  have h1 := tmod_in (t := t) (n := n) ht.1 (by omega)
  rw [hR] at h1
  have e1 : wrap64 (c - a) = c - a := wrapId _ (by omega) (by omega)
  have e2 : wrap64 (c - a + 1) = n := by rw [← hn]; exact wrapId _ (by omega) (by omega)
  have e3 : wrap64 t = t := wrapId _ (by omega) (by omega)
  have e4 : wrap64 R = R := wrapId _ (by omega) (by omega)
  have e5 : wrap64 (a + R) = a + R := wrapId _ (by omega) (by omega)
  have hn0 : ¬ n = 0 := by omega
  have hn0' : (n == 0) = false := by simp; omega
  go_enter Try.func58, Try.ntmps58
  go_wp2_with fail
  go_ret
  exact ⟨⟨_, rfl, by omega, by omega⟩, rfl⟩

set_option maxRecDepth 100000 in
set_option maxHeartbeats 4000000 in
theorem pick_gr (W H S cx cy x1 x2 : Int) (vL : Value) (w : World) (hS : 1 ≤ S ∧ S ≤ 50000) (hx : 0 ≤ cx ∧ cx ≤ 256) (hy : 0 ≤ cy ∧ cy ≤ 256) (h1 : 0 ≤ x1 ∧ x1 ≤ 4294967295) (h2 : 0 ≤ x2 ∧ x2 ≤ 4294967295) :
    Calls Try.prog 13 #[.agg #[.int .i64 W, .int .i64 H, .int .i64 S, vL], .agg #[.int .i64 cx, .int .i64 cy], .agg #[.int .u32 x1, .int .u32 x2]] w fun e w' =>
      (∃ p q, e = .returned (.agg #[.int .i64 (cx * S + p), .int .i64 (cy * S + q)]) ∧ (0 ≤ p ∧ p < S) ∧ 0 ≤ q ∧ q < S) ∧ Below w.heap.size w w' := by
  obtain ⟨R1, hR1⟩ : ∃ R, x1.tmod S = R := ⟨_, rfl⟩
  obtain ⟨R2, hR2⟩ : ∃ R, x2.tmod S = R := ⟨_, rfl⟩
  have t1 := tmod_in (t := x1) (n := S) h1.1 hS.1
  have t2 := tmod_in (t := x2) (n := S) h2.1 hS.1
  rw [hR1] at t1
  rw [hR2] at t2
  have m1 : 0 ≤ cx * S ∧ cx * S ≤ 12800000 := by
    have a1 := Int.mul_nonneg hx.1 (show 0 ≤ S by omega)
    have a2 := Int.mul_le_mul hx.2 hS.2 (by omega) (by omega)
    omega
  have m2 : 0 ≤ cy * S ∧ cy * S ≤ 12800000 := by
    have a1 := Int.mul_nonneg hy.1 (show 0 ≤ S by omega)
    have a2 := Int.mul_le_mul hy.2 hS.2 (by omega) (by omega)
    omega
  obtain ⟨P1, hP1⟩ : ∃ R, cx * S = R := ⟨_, rfl⟩
  obtain ⟨P2, hP2⟩ : ∃ R, cy * S = R := ⟨_, rfl⟩
  rw [hP1] at m1 ⊢
  rw [hP2] at m2 ⊢
  have e1 : IntKind.i64.wrap P1 = P1 := wrapK _ (by omega) (by omega)
  have e2 : IntKind.i64.wrap P2 = P2 := wrapK _ (by omega) (by omega)
  have e3 : IntKind.i64.wrap x1 = x1 := wrapK _ (by omega) (by omega)
  have e4 : IntKind.i64.wrap x2 = x2 := wrapK _ (by omega) (by omega)
  have e5 : IntKind.i64.wrap R1 = R1 := wrapK _ (by omega) (by omega)
  have e6 : IntKind.i64.wrap R2 = R2 := wrapK _ (by omega) (by omega)
  have e7 : IntKind.i64.wrap (P1 + R1) = P1 + R1 := wrapK _ (by omega) (by omega)
  have e8 : IntKind.i64.wrap (P2 + R2) = P2 + R2 := wrapK _ (by omega) (by omega)
  have hn0 : ¬ S = 0 := by omega
  have hn0' : (S == 0) = false := by simp; omega
  have HB : ((0 ≤ R1 ∧ R1 < S) ∧ 0 ≤ R2 ∧ R2 < S) := ⟨t1, t2⟩
  have HB := Lib.hid HB
  clear t1 t2 m1 m2
  go_enter Try.func13, Try.ntmps13
  go_wp2_with fail
  have b1 : Below w.heap.size w ((((w.alloc (.cells #[.int .i64 W, .int .i64 H, .int .i64 S, vL] 24)).alloc (.cells #[.int .i64 cx, .int .i64 cy] 39)).alloc (.cells #[.int .u32 x1, .int .u32 x2] 30)).alloc (.cells #[.int .i64 0, .int .i64 0] 26)) := ((((Below.refl w.heap.size w).alloc (Nat.le_refl _) _).alloc (by simp) _).alloc (by simp; omega) _).alloc (by simp; omega) _
  have c2 : ((((w.alloc (.cells #[.int .i64 W, .int .i64 H, .int .i64 S, vL] 24)).alloc (.cells #[.int .i64 cx, .int .i64 cy] 39)).alloc (.cells #[.int .u32 x1, .int .u32 x2] 30)).alloc (.cells #[.int .i64 0, .int .i64 0] 26)).cell? ⟨w.heap.size, 2, none⟩ = some (.int .i64 S) := by simp [go_sem]
  have k0 : ((((w.alloc (.cells #[.int .i64 W, .int .i64 H, .int .i64 S, vL] 24)).alloc (.cells #[.int .i64 cx, .int .i64 cy] 39)).alloc (.cells #[.int .u32 x1, .int .u32 x2] 30)).alloc (.cells #[.int .i64 0, .int .i64 0] 26)).cell? ⟨w.heap.size + 1, 0, none⟩ = some (.int .i64 cx) := by simp [go_sem]
  have k1 : ((((w.alloc (.cells #[.int .i64 W, .int .i64 H, .int .i64 S, vL] 24)).alloc (.cells #[.int .i64 cx, .int .i64 cy] 39)).alloc (.cells #[.int .u32 x1, .int .u32 x2] 30)).alloc (.cells #[.int .i64 0, .int .i64 0] 26)).cell? ⟨w.heap.size + 1, 1, none⟩ = some (.int .i64 cy) := by simp [go_sem]
  have x0 : ((((w.alloc (.cells #[.int .i64 W, .int .i64 H, .int .i64 S, vL] 24)).alloc (.cells #[.int .i64 cx, .int .i64 cy] 39)).alloc (.cells #[.int .u32 x1, .int .u32 x2] 30)).alloc (.cells #[.int .i64 0, .int .i64 0] 26)).cell? ⟨w.heap.size + 1 + 1, 0, none⟩ = some (.int .u32 x1) := by simp [go_sem]
  have x1' : ((((w.alloc (.cells #[.int .i64 W, .int .i64 H, .int .i64 S, vL] 24)).alloc (.cells #[.int .i64 cx, .int .i64 cy] 39)).alloc (.cells #[.int .u32 x1, .int .u32 x2] 30)).alloc (.cells #[.int .i64 0, .int .i64 0] 26)).cell? ⟨w.heap.size + 1 + 1, 1, none⟩ = some (.int .u32 x2) := by simp [go_sem]
  have f0 : ((((w.alloc (.cells #[.int .i64 W, .int .i64 H, .int .i64 S, vL] 24)).alloc (.cells #[.int .i64 cx, .int .i64 cy] 39)).alloc (.cells #[.int .u32 x1, .int .u32 x2] 30)).alloc (.cells #[.int .i64 0, .int .i64 0] 26)).frozen? ⟨w.heap.size + 1 + 1 + 1, 0, none⟩ = false := by simp [go_sem]
  have f1 : ((((w.alloc (.cells #[.int .i64 W, .int .i64 H, .int .i64 S, vL] 24)).alloc (.cells #[.int .i64 cx, .int .i64 cy] 39)).alloc (.cells #[.int .u32 x1, .int .u32 x2] 30)).alloc (.cells #[.int .i64 0, .int .i64 0] 26)).frozen? ⟨w.heap.size + 1 + 1 + 1, 1, none⟩ = false := by simp [go_sem]
  have z1 : w.heap.size + 1 + 1 + 1 < ((((w.alloc (.cells #[.int .i64 W, .int .i64 H, .int .i64 S, vL] 24)).alloc (.cells #[.int .i64 cx, .int .i64 cy] 39)).alloc (.cells #[.int .u32 x1, .int .u32 x2] 30)).alloc (.cells #[.int .i64 0, .int .i64 0] 26)).heap.size := by simp
  have r0 : ((((w.alloc (.cells #[.int .i64 W, .int .i64 H, .int .i64 S, vL] 24)).alloc (.cells #[.int .i64 cx, .int .i64 cy] 39)).alloc (.cells #[.int .u32 x1, .int .u32 x2] 30)).alloc (.cells #[.int .i64 0, .int .i64 0] 26)).cell? ⟨w.heap.size + 1 + 1 + 1, 0, none⟩ = some (.int .i64 0) := by simp [go_sem]
  have r1 : ((((w.alloc (.cells #[.int .i64 W, .int .i64 H, .int .i64 S, vL] 24)).alloc (.cells #[.int .i64 cx, .int .i64 cy] 39)).alloc (.cells #[.int .u32 x1, .int .u32 x2] 30)).alloc (.cells #[.int .i64 0, .int .i64 0] 26)).cell? ⟨w.heap.size + 1 + 1 + 1, 1, none⟩ = some (.int .i64 0) := by simp [go_sem]
  obtain ⟨w0, hw0⟩ : ∃ w0, ((((w.alloc (.cells #[.int .i64 W, .int .i64 H, .int .i64 S, vL] 24)).alloc (.cells #[.int .i64 cx, .int .i64 cy] 39)).alloc (.cells #[.int .u32 x1, .int .u32 x2] 30)).alloc (.cells #[.int .i64 0, .int .i64 0] 26)) = w0 := ⟨_, rfl⟩
  rw [hw0] at b1 z1 c2 k0 k1 x0 x1' f0 f1 r0 r1 ⊢
  clear hw0
  obtain ⟨B, hB⟩ : ∃ B, w.heap.size = B := ⟨_, rfl⟩
  rw [hB] at b1 z1 c2 k0 k1 x0 x1' f0 f1 r0 r1 ⊢
  have q1 : ¬ (B + 1 + 1 + 1 = B) := by omega
  have q1' : ¬ (B = B + 1 + 1 + 1) := by omega
  have q2 : ¬ (B + 1 + 1 + 1 = B + 1) := by omega
  have q2' : ¬ (B + 1 = B + 1 + 1 + 1) := by omega
  have q3 : ¬ (B + 1 + 1 + 1 = B + 1 + 1) := by omega
  have q3' : ¬ (B + 1 + 1 = B + 1 + 1 + 1) := by omega
  have q4 : ¬ (B + 1 + 1 = B) := by omega
  have q4' : ¬ (B = B + 1 + 1) := by omega
  have q5 : ¬ (B + 1 = B) := by omega
  have q5' : ¬ (B = B + 1) := by omega
  go_region_held3 (fun W' => W'.cell? ⟨B, 2, none⟩ = some (.int .i64 S) ∧ W'.cell? ⟨B + 1, 0, none⟩ = some (.int .i64 cx) ∧ W'.cell? ⟨B + 1, 1, none⟩ = some (.int .i64 cy) ∧ W'.cell? ⟨B + 1 + 1, 0, none⟩ = some (.int .u32 x1) ∧ W'.cell? ⟨B + 1 + 1, 1, none⟩ = some (.int .u32 x2) ∧ W'.frozen? ⟨B + 1 + 1 + 1, 0, none⟩ = false ∧ W'.frozen? ⟨B + 1 + 1 + 1, 1, none⟩ = false) (first | exact ⟨c2, k0, k1, x0, x1', f0, f1⟩ | go_keep | (simp [go_sem, c2, k0, k1, x0, x1', f0, f1, r0, r1, q1, q1', q2, q2', q3, q3', q4, q4', q5, q5']; done)) (fail)
  rename_i hHeld
  clear hHeld
  go_wp2_with fail
  refine bodyPost_ret (v := .agg #[.int .i64 (P1 + R1), .int .i64 (P2 + R2)]) (by simp [results, Try.results13, go_sem, r0, r1, f0, f1]) rfl ⟨⟨R1, R2, rfl, HB.out⟩, ?_⟩
  rw [hB]
  exact belowDrew ((b1.setCell (p := ⟨B + 1 + 1 + 1, 0, none⟩) (by simp; omega) _).setCell (p := ⟨B + 1 + 1 + 1, 1, none⟩) (by simp; omega) _)
set_option maxRecDepth 100000 in
set_option maxHeartbeats 4000000 in
theorem move_gr (a b c d x1 x2 : Int) (w : World) (ha : -16777216 ≤ a ∧ a ≤ c) (hb : -16777216 ≤ b ∧ b ≤ d) (hc : c ≤ 16777216) (hd : d ≤ 16777216) (h1 : 0 ≤ x1 ∧ x1 ≤ 4294967295) (h2 : 0 ≤ x2 ∧ x2 ≤ 4294967295) :
    Calls Try.prog 14 #[.agg #[.int .i64 a, .int .i64 b, .int .i64 c, .int .i64 d], .agg #[.int .u32 x1, .int .u32 x2]] w fun e w' =>
      (∃ m n, e = .returned (.agg #[.int .i64 m, .int .i64 n]) ∧ (a ≤ m ∧ m ≤ c) ∧ b ≤ n ∧ n ≤ d) ∧ Below w.heap.size w w' := by
  have F1 := fun w => of_gr a c x1 w ha hc h1
  have F2 := fun w => of_gr b d x2 w hb hd h2
  have H1 := Lib.hid F1
  have H2 := Lib.hid F2
  clear F1 F2
  go_enter Try.func14, Try.ntmps14
  go_wp2_with fail
  have b1 : Below w.heap.size w (((w.alloc (.cells #[.int .i64 a, .int .i64 b, .int .i64 c, .int .i64 d] 28)).alloc (.cells #[.int .u32 x1, .int .u32 x2] 30)).alloc (.cells #[.int .i64 0, .int .i64 0] 26)) := (((Below.refl w.heap.size w).alloc (Nat.le_refl _) _).alloc (by simp) _).alloc (by simp; omega) _
  have p0 : (((w.alloc (.cells #[.int .i64 a, .int .i64 b, .int .i64 c, .int .i64 d] 28)).alloc (.cells #[.int .u32 x1, .int .u32 x2] 30)).alloc (.cells #[.int .i64 0, .int .i64 0] 26)).cell? ⟨w.heap.size, 0, none⟩ = some (.int .i64 a) := by simp [go_sem]
  have p1 : (((w.alloc (.cells #[.int .i64 a, .int .i64 b, .int .i64 c, .int .i64 d] 28)).alloc (.cells #[.int .u32 x1, .int .u32 x2] 30)).alloc (.cells #[.int .i64 0, .int .i64 0] 26)).cell? ⟨w.heap.size, 1, none⟩ = some (.int .i64 b) := by simp [go_sem]
  have p2 : (((w.alloc (.cells #[.int .i64 a, .int .i64 b, .int .i64 c, .int .i64 d] 28)).alloc (.cells #[.int .u32 x1, .int .u32 x2] 30)).alloc (.cells #[.int .i64 0, .int .i64 0] 26)).cell? ⟨w.heap.size, 2, none⟩ = some (.int .i64 c) := by simp [go_sem]
  have p3 : (((w.alloc (.cells #[.int .i64 a, .int .i64 b, .int .i64 c, .int .i64 d] 28)).alloc (.cells #[.int .u32 x1, .int .u32 x2] 30)).alloc (.cells #[.int .i64 0, .int .i64 0] 26)).cell? ⟨w.heap.size, 3, none⟩ = some (.int .i64 d) := by simp [go_sem]
  have x0 : (((w.alloc (.cells #[.int .i64 a, .int .i64 b, .int .i64 c, .int .i64 d] 28)).alloc (.cells #[.int .u32 x1, .int .u32 x2] 30)).alloc (.cells #[.int .i64 0, .int .i64 0] 26)).cell? ⟨w.heap.size + 1, 0, none⟩ = some (.int .u32 x1) := by simp [go_sem]
  have x1' : (((w.alloc (.cells #[.int .i64 a, .int .i64 b, .int .i64 c, .int .i64 d] 28)).alloc (.cells #[.int .u32 x1, .int .u32 x2] 30)).alloc (.cells #[.int .i64 0, .int .i64 0] 26)).cell? ⟨w.heap.size + 1, 1, none⟩ = some (.int .u32 x2) := by simp [go_sem]
  have f0 : (((w.alloc (.cells #[.int .i64 a, .int .i64 b, .int .i64 c, .int .i64 d] 28)).alloc (.cells #[.int .u32 x1, .int .u32 x2] 30)).alloc (.cells #[.int .i64 0, .int .i64 0] 26)).frozen? ⟨w.heap.size + 1 + 1, 0, none⟩ = false := by simp [go_sem]
  have f1 : (((w.alloc (.cells #[.int .i64 a, .int .i64 b, .int .i64 c, .int .i64 d] 28)).alloc (.cells #[.int .u32 x1, .int .u32 x2] 30)).alloc (.cells #[.int .i64 0, .int .i64 0] 26)).frozen? ⟨w.heap.size + 1 + 1, 1, none⟩ = false := by simp [go_sem]
  have z1 : w.heap.size + 1 + 1 < (((w.alloc (.cells #[.int .i64 a, .int .i64 b, .int .i64 c, .int .i64 d] 28)).alloc (.cells #[.int .u32 x1, .int .u32 x2] 30)).alloc (.cells #[.int .i64 0, .int .i64 0] 26)).heap.size := by simp
  have r0 : (((w.alloc (.cells #[.int .i64 a, .int .i64 b, .int .i64 c, .int .i64 d] 28)).alloc (.cells #[.int .u32 x1, .int .u32 x2] 30)).alloc (.cells #[.int .i64 0, .int .i64 0] 26)).cell? ⟨w.heap.size + 1 + 1, 0, none⟩ = some (.int .i64 0) := by simp [go_sem]
  have r1 : (((w.alloc (.cells #[.int .i64 a, .int .i64 b, .int .i64 c, .int .i64 d] 28)).alloc (.cells #[.int .u32 x1, .int .u32 x2] 30)).alloc (.cells #[.int .i64 0, .int .i64 0] 26)).cell? ⟨w.heap.size + 1 + 1, 1, none⟩ = some (.int .i64 0) := by simp [go_sem]
  obtain ⟨w0, hw0⟩ : ∃ w0, (((w.alloc (.cells #[.int .i64 a, .int .i64 b, .int .i64 c, .int .i64 d] 28)).alloc (.cells #[.int .u32 x1, .int .u32 x2] 30)).alloc (.cells #[.int .i64 0, .int .i64 0] 26)) = w0 := ⟨_, rfl⟩
  rw [hw0] at b1 z1 p0 p1 p2 p3 x0 x1' f0 f1 r0 r1 ⊢
  clear hw0
  obtain ⟨B, hB⟩ : ∃ B, w.heap.size = B := ⟨_, rfl⟩
  rw [hB] at b1 z1 p0 p1 p2 p3 x0 x1' f0 f1 r0 r1 ⊢
  have q2 : ¬ (B + 1 + 1 = B + 1) := by omega
  have q2' : ¬ (B + 1 = B + 1 + 1) := by omega
  have q4 : ¬ (B + 1 + 1 = B) := by omega
  have q4' : ¬ (B = B + 1 + 1) := by omega
  have q5 : ¬ (B + 1 = B) := by omega
  have q5' : ¬ (B = B + 1) := by omega
  go_region_held3 (fun W' => W'.cell? ⟨B, 0, none⟩ = some (.int .i64 a) ∧ W'.cell? ⟨B, 1, none⟩ = some (.int .i64 b) ∧ W'.cell? ⟨B, 2, none⟩ = some (.int .i64 c) ∧ W'.cell? ⟨B, 3, none⟩ = some (.int .i64 d) ∧ W'.cell? ⟨B + 1, 0, none⟩ = some (.int .u32 x1) ∧ W'.cell? ⟨B + 1, 1, none⟩ = some (.int .u32 x2) ∧ W'.frozen? ⟨B + 1 + 1, 0, none⟩ = false ∧ W'.frozen? ⟨B + 1 + 1, 1, none⟩ = false) (first | exact ⟨p0, p1, p2, p3, x0, x1', f0, f1⟩ | go_keep | (simp [go_sem, p0, p1, p2, p3, x0, x1', f0, f1, r0, r1, q2, q2', q4, q4', q5, q5']; done))
    (first | (go_at_call 58; first | ((with_reducible refine (H1.out _).mono ?_); rintro e w' ⟨⟨m, rfl, hm⟩, rfl⟩) | ((with_reducible refine (H2.out _).mono ?_); rintro e w' ⟨⟨n, rfl, hn⟩, rfl⟩)))
  rename_i hHeld
  clear hHeld
  have HB := Lib.hid (show (a ≤ m ∧ m ≤ c) ∧ b ≤ n ∧ n ≤ d from ⟨hm, hn⟩)
  clear hm hn
  go_wp2_with fail
  refine bodyPost_ret (v := .agg #[.int .i64 m, .int .i64 n]) (by simp [results, Try.results14, go_sem, r0, r1, f0, f1]) rfl ⟨⟨m, n, rfl, HB.out⟩, ?_⟩
  rw [hB]
  exact belowDrew ((b1.setCell (p := ⟨B + 1 + 1, 0, none⟩) (by simp; omega) _).setCell (p := ⟨B + 1 + 1, 1, none⟩) (by simp; omega) _)
end Go.Proofs.Ytnbdnnbeiohmgaa
