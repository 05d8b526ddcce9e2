/- grid.Disc. -/
import Derived.Test.YtnbdnnbeiohmgaaGrB
import Derived.Deep.RegionHeld3
namespace Go.Proofs.Ytnbdnnbeiohmgaa
open Go.RowKit Go.Shelf Go.Lib

theorem filled_ok (W H S : Int) (vL : Value) (g : Nat) (cb : Array Value) (row : Nat → Int × Int) (w : World) (hW : 1 ≤ W ∧ W ≤ 256) (hH : 1 ≤ H ∧ H ≤ 256) (eg : ∀ args w, (callFunc g args).run Try.prog w = .ok (.enter g args) w)
    (hrow : ∀ (y : Nat) (W' : World), (y : Int) < H → Below w.heap.size w W' → Calls Try.prog g (#[.int .i64 y] ++ cb) W' fun e w'' => e = .returned (.tuple #[.int .i64 (row y).1, .int .i64 (row y).2]) ∧ Below W'.heap.size W' w'')
    (hb : ∀ y, -1152921504606846976 ≤ (row y).2 ∧ (row y).2 ≤ 1152921504606846976) :
    Calls Try.prog 69 #[.agg #[.int .i64 W, .int .i64 H, .int .i64 S, vL], .func (.func g) #[] cb] w fun e w' =>
      (∃ R, RegOf (fillF W row H.toNat) R ∧ ∃ v, e = .returned (.tuple #[v, .int .i64 0]) ∧ Runs w' v R) ∧ Below w.heap.size w w' := by
  refine (filled_gr W H S vL g cb row w hW hH eg hrow hb).mono ?_
  rintro e w' ⟨⟨R, ⟨ms, hms, hR⟩, v, rfl, hv⟩, hbw⟩
  have hl : R.length ≤ 8192 := by
    have := rowsR_length hms (N := 1) (fun y _ => fillF_len W row _ y)
    rw [hR]
    omega
  rw [if_pos hl] at hv ⊢
  exact ⟨⟨R, ⟨ms, hms, hR⟩, v, rfl, hv⟩, hbw⟩

/-- the root, rounded down -/
noncomputable def rootZ (n : Int) : Int := @dite _ (∃ r : Int, 0 ≤ r ∧ r * r ≤ n ∧ n < (r + 1) * (r + 1)) (Classical.propDecidable _) (fun h => Classical.choose h) (fun _ => 0)
theorem rootZ_eq {n r : Int} (h0 : 0 ≤ r) (h1 : r * r ≤ n) (h2 : n < (r + 1) * (r + 1)) : rootZ n = r := by
  have hex : ∃ r : Int, 0 ≤ r ∧ r * r ≤ n ∧ n < (r + 1) * (r + 1) := ⟨r, h0, h1, h2⟩
  have e : rootZ n = Classical.choose hex := by
    unfold rootZ
    exact dif_pos hex
  obtain ⟨k0, k1, k2⟩ := Classical.choose_spec hex
  rw [e]
  generalize Classical.choose hex = q at k0 k1 k2
  rcases Int.lt_trichotomy q r with h | h | h
  · have := Int.mul_le_mul (a := q + 1) (b := q + 1) (c := r) (d := r) (by omega) (by omega) (by omega) (by omega)
    omega
  · exact h
  · have := Int.mul_le_mul (a := r + 1) (b := r + 1) (c := q) (d := q) (by omega) (by omega) (by omega) (by omega)
    omega

theorem rootZ_gr (n : Int) (w : World) (h0 : 0 ≤ n) (h1 : n ≤ 281474976710656) : Calls Try.prog 72 #[.int .i64 n] w fun e w' => (e = .returned (.int .i64 (rootZ n)) ∧ 0 ≤ rootZ n ∧ rootZ n ≤ 16777216 ∧ rootZ n * rootZ n ≤ n ∧ n < (rootZ n + 1) * (rootZ n + 1)) ∧ w = w' := by
  refine (root_gr n w h0 h1).mono ?_
  rintro e w' ⟨⟨r, rfl, k0, k1, k2⟩, rfl⟩
  rw [rootZ_eq k0 k1 k2]
  refine ⟨⟨rfl, k0, ?_, k1, k2⟩, rfl⟩
  by_cases h : r ≤ 16777216
  · exact h
  · have := Int.mul_le_mul (a := 16777217) (b := 16777217) (c := r) (d := r) (by omega) (by omega) (by omega) (by omega)
    omega

noncomputable def discRow (S sx sy r : Int) (y : Nat) : Int × Int :=
  if r < awayZ S sy y then (0, -1) else ((sx - rootZ (r * r - awayZ S sy y * awayZ S sy y)) / S, (sx + rootZ (r * r - awayZ S sy y * awayZ S sy y)) / S)

set_option maxRecDepth 100000 in
set_option maxHeartbeats 8000000 in
theorem disc1_gr (W H S sx sy r : Int) (vL : Value) (y B : Nat) (w : World) (hS : 1 ≤ S ∧ S ≤ 50000) (hx : -16777216 ≤ sx ∧ sx ≤ 16777216) (hy : -16777216 ≤ sy ∧ sy ≤ 16777216) (hr : 0 ≤ r ∧ r ≤ 16777216) (hyy : y < 256)
    (hB : B + 2 < w.heap.size) (c0 : w.cell? ⟨B, 0, none⟩ = some (.int .i64 W)) (c1 : w.cell? ⟨B, 1, none⟩ = some (.int .i64 H)) (c2 : w.cell? ⟨B, 2, none⟩ = some (.int .i64 S)) (c3 : w.cell? ⟨B, 3, none⟩ = some vL)
    (s0 : w.cell? ⟨B + 1, 0, none⟩ = some (.int .i64 sx)) (s1 : w.cell? ⟨B + 1, 1, none⟩ = some (.int .i64 sy)) (r0 : w.cell? ⟨B + 2, 0, none⟩ = some (.int .i64 r)) :
    Calls Try.prog 70 #[.int .i64 y, .pointer (some ⟨B, 0, none⟩), .pointer (some ⟨B + 1, 0, none⟩), .pointer (some ⟨B + 2, 0, none⟩)] w fun e w' =>
      e = .returned (.tuple #[.int .i64 (discRow S sx sy r y).1, .int .i64 (discRow S sx sy r y).2]) ∧ Below w.heap.size w w' := by
  have HA := Lib.hid (away_gr W H S sy y vL w hS hy (by omega))
  go_enter Try.func70, Try.ntmps70
  go_wp2_with fail
  refine HA.out.mono ?_
  rintro e w1 ⟨rfl, hb1⟩
  have c2 := (hb1.cell (p := ⟨B, 2, none⟩) (by show B < w.heap.size; omega)).trans c2
  have s0 := (hb1.cell (p := ⟨B + 1, 0, none⟩) (by show B + 1 < w.heap.size; omega)).trans s0
  have r0 := (hb1.cell (p := ⟨B + 2, 0, none⟩) (by show B + 2 < w.heap.size; omega)).trans r0
  have hd0 : 0 ≤ awayZ S sy y := by unfold awayZ; omega
  obtain ⟨d, hd⟩ : ∃ d, awayZ S sy y = d := ⟨_, rfl⟩
  rw [hd] at hd0 ⊢
  by_cases hrd : r < d
  · have hrow : discRow S sx sy r y = (0, -1) := by unfold discRow; rw [hd, if_pos hrd]
    have HR := Lib.hid hrow
    clear hrow
    go_wp2_with fail
    exact bodyPost_ret (v := .tuple #[.int .i64 0, .int .i64 (-1)]) (by simp [results, Try.results70, go_sem]) rfl ⟨by rw [HR.out], hb1⟩
  · have hrow : discRow S sx sy r y = ((sx - rootZ (r * r - d * d)) / S, (sx + rootZ (r * r - d * d)) / S) := by unfold discRow; rw [hd, if_neg hrd]
    have q1 : 0 ≤ r * r ∧ r * r ≤ 281474976710656 := ⟨Int.mul_nonneg (by omega) (by omega), by have := Int.mul_le_mul (a := r) (b := r) (c := 16777216) (d := 16777216) (by omega) (by omega) (by omega) (by omega); omega⟩
    have q2 : 0 ≤ d * d := Int.mul_nonneg (by omega) (by omega)
    have q3 : d * d ≤ r * r := Int.mul_le_mul (by omega) (by omega) (by omega) (by omega)
    obtain ⟨rr, hrr⟩ : ∃ x, r * r = x := ⟨_, rfl⟩
    obtain ⟨dd, hdd⟩ : ∃ x, d * d = x := ⟨_, rfl⟩
    rw [hrr, hdd] at hrow
    rw [hrr] at q1 q3
    rw [hdd] at q2 q3
    have HRt := Lib.hid (fun w => rootZ_gr (rr - dd) w (by omega) (by omega))
    have e1 : wrap64 rr = rr := wrapId _ (by omega) (by omega)
    have e2 : wrap64 dd = dd := wrapId _ (by omega) (by omega)
    have e3 : wrap64 (rr - dd) = rr - dd := wrapId _ (by omega) (by omega)
    have HR := Lib.hid hrow
    clear hrow
    go_wp2_with fail
    refine (HRt.out _).mono ?_
    rintro e w' ⟨⟨rfl, t0, t1, -, -⟩, rfl⟩
    obtain ⟨q, hq⟩ : ∃ q, rootZ (rr - dd) = q := ⟨_, rfl⟩
    rw [hq] at t0 t1 HR ⊢
    have H1 := Lib.hid (fun w => floor_gr (sx - q) S w (by omega) hS)
    have H2 := Lib.hid (fun w => floor_gr (sx + q) S w (by omega) hS)
    have z1 : IntKind.i64.wrap (sx - q) = sx - q := wrapK _ (by omega) (by omega)
    have z2 : IntKind.i64.wrap (sx + q) = sx + q := wrapK _ (by omega) (by omega)
    obtain ⟨x1, hx1⟩ : ∃ x, (sx - q) / S = x := ⟨_, rfl⟩
    obtain ⟨x2, hx2⟩ : ∃ x, (sx + q) / S = x := ⟨_, rfl⟩
    rw [hx1, hx2] at HR
    rw [hx1] at H1
    rw [hx2] at H2
    clear hx1 hx2
    go_wp2_with fail
    go_region_held3 (fun W' => W'.cell? ⟨B, 2, none⟩ = some (.int .i64 S) ∧ W'.cell? ⟨B + 1, 0, none⟩ = some (.int .i64 sx)) (first | exact ⟨c2, s0⟩ | go_keep)
      (first | (go_at_call 61; first | ((with_reducible refine (H1.out _).mono ?_); rintro e w' ⟨rfl, rfl⟩) | ((with_reducible refine (H2.out _).mono ?_); rintro e w' ⟨rfl, rfl⟩)))
    all_goals
      go_wp2_with fail
      exact bodyPost_ret (v := .tuple #[.int .i64 x1, .int .i64 x2]) (by simp [results, Try.results70, go_sem]) rfl ⟨by rw [HR.out], belowDrew hb1⟩

theorem discRow_le (S sx sy r : Int) (hS : 1 ≤ S ∧ S ≤ 50000) (hx : -16777216 ≤ sx ∧ sx ≤ 16777216) (hr : 0 ≤ r ∧ r ≤ 16777216) (y : Nat) : -1152921504606846976 ≤ (discRow S sx sy r y).2 ∧ (discRow S sx sy r y).2 ≤ 1152921504606846976 := by
  unfold discRow
  split
  · simp
  · have hn : r * r - awayZ S sy y * awayZ S sy y ≤ 281474976710656 := by
      have h1 := Int.mul_le_mul (a := r) (b := r) (c := 16777216) (d := 16777216) (by omega) (by omega) (by omega) (by omega)
      have hd0 : 0 ≤ awayZ S sy y := by unfold awayZ; omega
      have h2 := Int.mul_nonneg hd0 hd0
      omega
    generalize r * r - awayZ S sy y * awayZ S sy y = n at hn
    have hq : 0 ≤ rootZ n ∧ rootZ n ≤ 16777216 := by
      unfold rootZ
      split
      · rename_i h
        obtain ⟨k0, k1, -⟩ := Classical.choose_spec h
        refine ⟨k0, ?_⟩
        generalize Classical.choose h = q at k0 k1
        by_cases hq : q ≤ 16777216
        · exact hq
        · have := Int.mul_le_mul (a := 16777217) (b := 16777217) (c := q) (d := q) (by omega) (by omega) (by omega) (by omega)
          omega
      · simp
    dsimp only
    have h3 : (sx + rootZ n) / S ≤ 33554432 := by
      rcases Int.lt_or_le (sx + rootZ n) 0 with h | h
      · have : (sx + rootZ n) / S < 0 := Int.ediv_neg_of_neg_of_pos h (by omega)
        omega
      · have := Int.ediv_le_self S h
        omega
    have h4 : -33554432 ≤ (sx + rootZ n) / S := by
      have := (Int.le_ediv_iff_mul_le (a := -33554432) (b := sx + rootZ n) (c := S) (by omega)).2 (by omega)
      exact this
    omega

set_option maxRecDepth 100000 in
set_option maxHeartbeats 8000000 in
theorem disc_gr (W H S sx sy r : Int) (vL : Value) (ld : List R3) (w : World) (h : Runs w vL ld) :
    Calls Try.prog 27 #[.agg #[.int .i64 W, .int .i64 H, .int .i64 S, vL], .agg #[.int .i64 sx, .int .i64 sy], .int .i64 r] w fun e w' =>
      (∃ R v, e = .returned (.tuple #[v, .int .i64 (argE (checkG W H S ld && nearS (sx, sy) && inB r 0 16777216))]) ∧ Runs w' v R ∧ ((checkG W H S ld && nearS (sx, sy) && inB r 0 16777216) = true → RegOf (fillF W (discRow S sx sy r) H.toNat) R)) ∧ Below w.heap.size w w' := by
  have b1 : Below w.heap.size w (((w.alloc (.cells #[.int .i64 W, .int .i64 H, .int .i64 S, vL] 24)).alloc (.cells #[.int .i64 sx, .int .i64 sy] 26)).alloc (.cells #[.int .i64 r] 3)) :=
    (((Below.refl w.heap.size w).alloc (Nat.le_refl _) _).alloc (by simp) _).alloc (by simp; omega) _
  have hG := checkGrid_gr W H S vL ld _ (h.below b1)
  have HG := Lib.hid hG
  clear hG h
  go_enter Try.func27, Try.ntmps27
  go_wp2_with fail
  refine HG.out.mono ?_
  rintro e w1 ⟨rfl, hb1⟩
  have b2 := b1.trans (hb1.mono (by simp; omega))
  have c0 := hb1.cell (p := ⟨w.heap.size, 0, none⟩) (by simp; omega)
  have c1 := hb1.cell (p := ⟨w.heap.size, 1, none⟩) (by simp; omega)
  have c2 := hb1.cell (p := ⟨w.heap.size, 2, none⟩) (by simp; omega)
  have c3 := hb1.cell (p := ⟨w.heap.size, 3, none⟩) (by simp; omega)
  have s0 := hb1.cell (p := ⟨w.heap.size + 1, 0, none⟩) (by simp)
  have s1 := hb1.cell (p := ⟨w.heap.size + 1, 1, none⟩) (by simp)
  have r0 := hb1.cell (p := ⟨w.heap.size + 1 + 1, 0, none⟩) (by simp)
  have hz := hb1.size
  simp [go_sem] at c0 c1 c2 c3 s0 s1 r0 hz
  clear HG hb1 b1
  obtain ⟨B, hB⟩ : ∃ B, w.heap.size = B := ⟨_, rfl⟩
  rw [hB] at b2 c0 c1 c2 c3 s0 s1 r0 hz
  cases k1 : checkG W H S ld with
  | false =>
    have hE := Lib.hid (show argE (checkG W H S ld && nearS (sx, sy) && inB r 0 16777216) = 2 by rw [k1]; rfl)
    rw [argE_false]
    go_wp2_with fail
    exact bodyPost_ret (v := .tuple #[.slice none 0 0, .int .i64 2]) (by simp [results, Try.results27, go_sem]) rfl ⟨⟨[], _, by rw [hE.out], Lst.nil _, fun h => by simp [k1] at h⟩, hB.symm ▸ b2⟩
  | true =>
    rw [argE_true]
    obtain ⟨hW, hH, hS, -⟩ := checkG_iff k1
    have hN := near_gr (.slice (some ⟨w1.heap.size, 0, none⟩) 1 1) [(sx, sy)] _ (Lst_lit encS_len w1 w1.heap.size 1 rfl #[.int .i64 sx, .int .i64 sy] [(sx, sy)] 26 rfl rfl (by unfold maxLen; omega)) (by simp)
    have e1 : [(sx, sy)].all nearS = nearS (sx, sy) := by simp
    rw [e1] at hN
    have HN := Lib.hid hN
    clear hN e1
    rw [hB]
    go_wp2_with fail
    refine HN.out.mono ?_
    rintro e w2 ⟨rfl, hb2⟩
    have b3 : Below w1.heap.size w1 w2 := ((Below.refl _ _).alloc (Nat.le_refl _) _).trans (hb2.mono (by simp))
    have c0 := (b3.cell (p := ⟨B, 0, none⟩) (by show B < w1.heap.size; omega)).trans c0
    have c1 := (b3.cell (p := ⟨B, 1, none⟩) (by show B < w1.heap.size; omega)).trans c1
    have c2 := (b3.cell (p := ⟨B, 2, none⟩) (by show B < w1.heap.size; omega)).trans c2
    have c3 := (b3.cell (p := ⟨B, 3, none⟩) (by show B < w1.heap.size; omega)).trans c3
    have s0 := (b3.cell (p := ⟨B + 1, 0, none⟩) (by show B + 1 < w1.heap.size; omega)).trans s0
    have s1 := (b3.cell (p := ⟨B + 1, 1, none⟩) (by show B + 1 < w1.heap.size; omega)).trans s1
    have r0 := (b3.cell (p := ⟨B + 1 + 1, 0, none⟩) (by show B + 1 + 1 < w1.heap.size; omega)).trans r0
    have b4 := b2.trans (b3.mono (by omega))
    have hz2 := b3.size
    clear hb2 b3 HN
    cases k2 : nearS (sx, sy) with
    | false =>
      have hE := Lib.hid (show argE (checkG W H S ld && nearS (sx, sy) && inB r 0 16777216) = 2 by rw [k1, k2]; rfl)
      go_wp2_with fail
      exact bodyPost_ret (v := .tuple #[.slice none 0 0, .int .i64 2]) (by simp [results, Try.results27, go_sem]) rfl ⟨⟨[], _, by rw [hE.out], Lst.nil _, fun h => by simp [k2] at h⟩, hB.symm ▸ b4⟩
    | true =>
      have k2' := k2
      simp only [nearS, Bool.and_eq_true] at k2'
      have bx := nearC_iff k2'.1
      have by' := nearC_iff k2'.2
      clear k2'
      go_wp2_with fail
      refine (within_gr _ _ _ _).mono ?_
      rintro e w' ⟨rfl, rfl⟩
      cases k3 : inB r 0 16777216 with
      | false =>
        have hE := Lib.hid (show argE (checkG W H S ld && nearS (sx, sy) && inB r 0 16777216) = 2 by rw [k1, k2, k3]; rfl)
        go_wp2_with fail
        exact bodyPost_ret (v := .tuple #[.slice none 0 0, .int .i64 2]) (by simp [results, Try.results27, go_sem]) rfl ⟨⟨[], _, by rw [hE.out], Lst.nil _, fun h => by simp [k3] at h⟩, hB.symm ▸ b4⟩
      | true =>
        have hE := Lib.hid (show argE (checkG W H S ld && nearS (sx, sy) && inB r 0 16777216) = 0 by rw [k1, k2, k3]; rfl)
        have hr := inB_iff k3
        have eg : ∀ args w, (callFunc 70 args).run Try.prog w = .ok (.enter 70 args) w := enters_of Try.func70 (by kernel_rfl) rfl
        have hf := filled_ok W H S vL 70 #[.pointer (some ⟨B, 0, none⟩), .pointer (some ⟨B + 1, 0, none⟩), .pointer (some ⟨B + 1 + 1, 0, none⟩)] (discRow S sx sy r) w2 hW hH eg (fun y W' hyy hbl =>
          disc1_gr W H S sx sy r vL y B W' hS bx by' hr (by omega) (by have := hbl.size; omega)
            ((hbl.cell (p := ⟨B, 0, none⟩) (by show B < w2.heap.size; omega)).trans c0) ((hbl.cell (p := ⟨B, 1, none⟩) (by show B < w2.heap.size; omega)).trans c1) ((hbl.cell (p := ⟨B, 2, none⟩) (by show B < w2.heap.size; omega)).trans c2) ((hbl.cell (p := ⟨B, 3, none⟩) (by show B < w2.heap.size; omega)).trans c3)
            ((hbl.cell (p := ⟨B + 1, 0, none⟩) (by show B + 1 < w2.heap.size; omega)).trans s0) ((hbl.cell (p := ⟨B + 1, 1, none⟩) (by show B + 1 < w2.heap.size; omega)).trans s1) ((hbl.cell (p := ⟨B + 1 + 1, 0, none⟩) (by show B + 1 + 1 < w2.heap.size; omega)).trans r0)) (discRow_le S sx sy r hS bx hr)
        have HF := Lib.hid hf
        clear hf eg
        go_wp2_with fail
        refine HF.out.mono ?_
        rintro e w3 ⟨⟨R, hR, v, rfl, hv⟩, hb3⟩
        have HRg := Lib.hid hR
        have HV := Lib.hid hv
        clear hR hv
        go_wp2_with fail
        exact bodyPost_ret (v := .tuple #[v, .int .i64 0]) (by simp [results, Try.results27, go_sem]) rfl ⟨⟨R, v, by rw [hE.out], HV.out, fun _ => HRg.out⟩, hB.symm ▸ b4.trans (hb3.mono (by omega))⟩
end Go.Proofs.Ytnbdnnbeiohmgaa
