/- grid.Disc. -/
import Derived.Deep.RegionHeld3
import Derived.Deep.Cut
import Derived.Deep.Light
import Derived.Deep.CutRange
import Derived.BigGuard
import Derived.Test.YtnbdnnbeiohmgaaGrB
namespace Go.Proofs.Ytnbdnnbeiohmgaa
open Go.RowKit Go.Shelf Go.Lib

theorem filled_ok (W H S : Int) (vL : Value) (g : Nat) (cb : Array Value) (row : Nat → Int × Int) (w : World) (hW : 1 ≤ W ∧ W ≤ 256) (hH : 1 ≤ H ∧ H ≤ 256) (eg : ∀ args w, (callFunc g args).run Try.prog w = .ok (.enter g args) w)
    (hrow : ∀ (y : Nat) (W' : World), (y : Int) < H → Below w.heap.size w W' → Calls Try.prog g (#[.int .i64 y] ++ cb) W' fun e w'' => e = .returned (.tuple #[.int .i64 (row y).1, .int .i64 (row y).2]) ∧ Below W'.heap.size W' w'')
    (hb : ∀ y, -1152921504606846976 ≤ (row y).2 ∧ (row y).2 ≤ 1152921504606846976) :
    Calls Try.prog 69 #[.agg #[.int .i64 W, .int .i64 H, .int .i64 S, vL], .func (.func g) #[] cb] w fun e w' =>
      (∃ R, RegOf (fillF W row H.toNat) R ∧ ∃ v, e = .returned (.tuple #[v, .int .i64 0]) ∧ Runs w' v R) ∧ Below w.heap.size w w' := by
  refine (filled_gr W H S vL g cb row w hW hH eg hrow hb).mono ?_
  rintro e w' ⟨⟨R, ⟨ms, hms, hR⟩, v, rfl, hv⟩, hbw⟩
  have hl : R.length ≤ 8192 := by
    have := rowsR_length hms (N := 1) (fun y _ => fillF_len W row _ y)
    rw [hR]
    omega
  rw [if_pos hl] at hv ⊢
  exact ⟨⟨R, ⟨ms, hms, hR⟩, v, rfl, hv⟩, hbw⟩

/-- the root, rounded down -/
noncomputable def rootZ (n : Int) : Int := @dite _ (∃ r : Int, 0 ≤ r ∧ r * r ≤ n ∧ n < (r + 1) * (r + 1)) (Classical.propDecidable _) (fun h => Classical.choose h) (fun _ => 0)
theorem rootZ_eq {n r : Int} (h0 : 0 ≤ r) (h1 : r * r ≤ n) (h2 : n < (r + 1) * (r + 1)) : rootZ n = r := by
  have hex : ∃ r : Int, 0 ≤ r ∧ r * r ≤ n ∧ n < (r + 1) * (r + 1) := ⟨r, h0, h1, h2⟩
  have e : rootZ n = Classical.choose hex := by
    unfold rootZ
    exact dif_pos hex
  obtain ⟨k0, k1, k2⟩ := Classical.choose_spec hex
  rw [e]
  generalize Classical.choose hex = q at k0 k1 k2
  rcases Int.lt_trichotomy q r with h | h | h
  · have := Int.mul_le_mul (a := q + 1) (b := q + 1) (c := r) (d := r) (by omega) (by omega) (by omega) (by omega)
    omega
  · exact h
  · have := Int.mul_le_mul (a := r + 1) (b := r + 1) (c := q) (d := q) (by omega) (by omega) (by omega) (by omega)
    omega

theorem rootZ_gr (n : Int) (w : World) (h0 : 0 ≤ n) (h1 : n ≤ 281474976710656) : Calls Try.prog 72 #[.int .i64 n] w fun e w' => (e = .returned (.int .i64 (rootZ n)) ∧ 0 ≤ rootZ n ∧ rootZ n ≤ 16777216 ∧ rootZ n * rootZ n ≤ n ∧ n < (rootZ n + 1) * (rootZ n + 1)) ∧ w = w' := by
  refine (root_gr n w h0 h1).mono ?_
  rintro e w' ⟨⟨r, rfl, k0, k1, k2⟩, rfl⟩
  rw [rootZ_eq k0 k1 k2]
  refine ⟨⟨rfl, k0, ?_, k1, k2⟩, rfl⟩
  by_cases h : r ≤ 16777216
  · exact h
  · have := Int.mul_le_mul (a := 16777217) (b := 16777217) (c := r) (d := r) (by omega) (by omega) (by omega) (by omega)
    omega

noncomputable def discRow (S sx sy r : Int) (y : Nat) : Int × Int :=
  if r < awayZ S sy y then (0, -1) else ((sx - rootZ (r * r - awayZ S sy y * awayZ S sy y)) / S, (sx + rootZ (r * r - awayZ S sy y * awayZ S sy y)) / S)

set_option maxRecDepth 100000 in
set_option maxHeartbeats 8000000 in
theorem disc1_gr (W H S sx sy r : Int) (vL : Value) (y B : Nat) (w : World) (hS : 1 ≤ S ∧ S ≤ 50000) (hx : -16777216 ≤ sx ∧ sx ≤ 16777216) (hy : -16777216 ≤ sy ∧ sy ≤ 16777216) (hr : 0 ≤ r ∧ r ≤ 16777216) (hyy : y < 256)
    (hB : B + 2 < w.heap.size) (c0 : w.cell? ⟨B, 0, none⟩ = some (.int .i64 W)) (c1 : w.cell? ⟨B, 1, none⟩ = some (.int .i64 H)) (c2 : w.cell? ⟨B, 2, none⟩ = some (.int .i64 S)) (c3 : w.cell? ⟨B, 3, none⟩ = some vL)
    (s0 : w.cell? ⟨B + 1, 0, none⟩ = some (.int .i64 sx)) (s1 : w.cell? ⟨B + 1, 1, none⟩ = some (.int .i64 sy)) (r0 : w.cell? ⟨B + 2, 0, none⟩ = some (.int .i64 r)) :
    Calls Try.prog 70 #[.int .i64 y, .pointer (some ⟨B, 0, none⟩), .pointer (some ⟨B + 1, 0, none⟩), .pointer (some ⟨B + 2, 0, none⟩)] w fun e w' =>
      e = .returned (.tuple #[.int .i64 (discRow S sx sy r y).1, .int .i64 (discRow S sx sy r y).2]) ∧ Below w.heap.size w w' := by
  have HA := Lib.hid (away_gr W H S sy y vL w hS hy (by omega))
  go_enter Try.func70, Try.ntmps70
  go_wp2_with fail
  refine HA.out.mono ?_
  rintro e w1 ⟨rfl, hb1⟩
  have c2 := (hb1.cell (p := ⟨B, 2, none⟩) (by show B < w.heap.size; omega)).trans c2
  have s0 := (hb1.cell (p := ⟨B + 1, 0, none⟩) (by show B + 1 < w.heap.size; omega)).trans s0
  have r0 := (hb1.cell (p := ⟨B + 2, 0, none⟩) (by show B + 2 < w.heap.size; omega)).trans r0
  have hd0 : 0 ≤ awayZ S sy y := by unfold awayZ; omega
  obtain ⟨d, hd⟩ : ∃ d, awayZ S sy y = d := ⟨_, rfl⟩
  rw [hd] at hd0 ⊢
  by_cases hrd : r < d
  · have hrow : discRow S sx sy r y = (0, -1) := by unfold discRow; rw [hd, if_pos hrd]
    have HR := Lib.hid hrow
    clear hrow
    go_wp2_with fail
    exact bodyPost_ret (v := .tuple #[.int .i64 0, .int .i64 (-1)]) (by simp [results, Try.results70, go_sem]) rfl ⟨by rw [HR.out], hb1⟩
  · have hrow : discRow S sx sy r y = ((sx - rootZ (r * r - d * d)) / S, (sx + rootZ (r * r - d * d)) / S) := by unfold discRow; rw [hd, if_neg hrd]
    have q1 : 0 ≤ r * r ∧ r * r ≤ 281474976710656 := ⟨Int.mul_nonneg (by omega) (by omega), by have := Int.mul_le_mul (a := r) (b := r) (c := 16777216) (d := 16777216) (by omega) (by omega) (by omega) (by omega); omega⟩
    have q2 : 0 ≤ d * d := Int.mul_nonneg (by omega) (by omega)
    have q3 : d * d ≤ r * r := Int.mul_le_mul (by omega) (by omega) (by omega) (by omega)
    obtain ⟨rr, hrr⟩ : ∃ x, r * r = x := ⟨_, rfl⟩
    obtain ⟨dd, hdd⟩ : ∃ x, d * d = x := ⟨_, rfl⟩
    rw [hrr, hdd] at hrow
    rw [hrr] at q1 q3
    rw [hdd] at q2 q3
    have HRt := Lib.hid (fun w => rootZ_gr (rr - dd) w (by omega) (by omega))
    have e1 : wrap64 rr = rr := wrapId _ (by omega) (by omega)
    have e2 : wrap64 dd = dd := wrapId _ (by omega) (by omega)
    have e3 : wrap64 (rr - dd) = rr - dd := wrapId _ (by omega) (by omega)
    have HR := Lib.hid hrow
    clear hrow
    go_wp2_with fail
    refine (HRt.out _).mono ?_
    rintro e w' ⟨⟨rfl, t0, t1, -, -⟩, rfl⟩
    obtain ⟨q, hq⟩ : ∃ q, rootZ (rr - dd) = q := ⟨_, rfl⟩
    rw [hq] at t0 t1 HR ⊢
    have H1 := Lib.hid (fun w => floor_gr (sx - q) S w (by omega) hS)
    have H2 := Lib.hid (fun w => floor_gr (sx + q) S w (by omega) hS)
    have z1 : IntKind.i64.wrap (sx - q) = sx - q := wrapK _ (by omega) (by omega)
    have z2 : IntKind.i64.wrap (sx + q) = sx + q := wrapK _ (by omega) (by omega)
    obtain ⟨x1, hx1⟩ : ∃ x, (sx - q) / S = x := ⟨_, rfl⟩
    obtain ⟨x2, hx2⟩ : ∃ x, (sx + q) / S = x := ⟨_, rfl⟩
    rw [hx1, hx2] at HR
    rw [hx1] at H1
    rw [hx2] at H2
    clear hx1 hx2
    go_wp2_with fail
    go_region_held3 (fun W' => W'.cell? ⟨B, 2, none⟩ = some (.int .i64 S) ∧ W'.cell? ⟨B + 1, 0, none⟩ = some (.int .i64 sx)) (first | exact ⟨c2, s0⟩ | go_keep)
      (first | (go_at_call 61; first | ((with_reducible refine (H1.out _).mono ?_); rintro e w' ⟨rfl, rfl⟩) | ((with_reducible refine (H2.out _).mono ?_); rintro e w' ⟨rfl, rfl⟩)))
    all_goals
      go_wp2_with fail
      exact bodyPost_ret (v := .tuple #[.int .i64 x1, .int .i64 x2]) (by simp [results, Try.results70, go_sem]) rfl ⟨by rw [HR.out], belowDrew hb1⟩

theorem discRow_le (S sx sy r : Int) (hS : 1 ≤ S ∧ S ≤ 50000) (hx : -16777216 ≤ sx ∧ sx ≤ 16777216) (hr : 0 ≤ r ∧ r ≤ 16777216) (y : Nat) : -1152921504606846976 ≤ (discRow S sx sy r y).2 ∧ (discRow S sx sy r y).2 ≤ 1152921504606846976 := by
  unfold discRow
  split
  · simp
  · have hn : r * r - awayZ S sy y * awayZ S sy y ≤ 281474976710656 := by
      have h1 := Int.mul_le_mul (a := r) (b := r) (c := 16777216) (d := 16777216) (by omega) (by omega) (by omega) (by omega)
      have hd0 : 0 ≤ awayZ S sy y := by unfold awayZ; omega
      have h2 := Int.mul_nonneg hd0 hd0
      omega
    generalize r * r - awayZ S sy y * awayZ S sy y = n at hn
    have hq : 0 ≤ rootZ n ∧ rootZ n ≤ 16777216 := by
      unfold rootZ
      split
      · rename_i h
        obtain ⟨k0, k1, -⟩ := Classical.choose_spec h
        refine ⟨k0, ?_⟩
        generalize Classical.choose h = q at k0 k1
        by_cases hq : q ≤ 16777216
        · exact hq
        · have := Int.mul_le_mul (a := 16777217) (b := 16777217) (c := q) (d := q) (by omega) (by omega) (by omega) (by omega)
          omega
      · simp
    dsimp only
    have h3 : (sx + rootZ n) / S ≤ 33554432 := by
      rcases Int.lt_or_le (sx + rootZ n) 0 with h | h
      · have : (sx + rootZ n) / S < 0 := Int.ediv_neg_of_neg_of_pos h (by omega)
        omega
      · have := Int.ediv_le_self S h
        omega
    have h4 : -33554432 ≤ (sx + rootZ n) / S := by
      have := (Int.le_ediv_iff_mul_le (a := -33554432) (b := sx + rootZ n) (c := S) (by omega)).2 (by omega)
      exact this
    omega

set_option maxRecDepth 100000 in
set_option maxHeartbeats 8000000 in
theorem disc_gr (W H S sx sy r : Int) (vL : Value) (ld : List R3) (w : World) (h : Runs w vL ld) :
    Calls Try.prog 27 #[.agg #[.int .i64 W, .int .i64 H, .int .i64 S, vL], .agg #[.int .i64 sx, .int .i64 sy], .int .i64 r] w fun e w' =>
      (∃ R v, e = .returned (.tuple #[v, .int .i64 (argE (checkG W H S ld && nearS (sx, sy) && inB r 0 16777216))]) ∧ Runs w' v R ∧ ((checkG W H S ld && nearS (sx, sy) && inB r 0 16777216) = true → RegOf (fillF W (discRow S sx sy r) H.toNat) R)) ∧ Below w.heap.size w w' := by
  have b1 : Below w.heap.size w (((w.alloc (.cells #[.int .i64 W, .int .i64 H, .int .i64 S, vL] 24)).alloc (.cells #[.int .i64 sx, .int .i64 sy] 26)).alloc (.cells #[.int .i64 r] 3)) :=
    (((Below.refl w.heap.size w).alloc (Nat.le_refl _) _).alloc (by simp) _).alloc (by simp; omega) _
  have hG := checkGrid_gr W H S vL ld _ (h.below b1)
  have HG := Lib.hid hG
  clear hG h
  go_enter Try.func27, Try.ntmps27
  go_wp2_with fail
  refine HG.out.mono ?_
  rintro e w1 ⟨rfl, hb1⟩
  have b2 := b1.trans (hb1.mono (by simp; omega))
  have c0 := hb1.cell (p := ⟨w.heap.size, 0, none⟩) (by simp; omega)
  have c1 := hb1.cell (p := ⟨w.heap.size, 1, none⟩) (by simp; omega)
  have c2 := hb1.cell (p := ⟨w.heap.size, 2, none⟩) (by simp; omega)
  have c3 := hb1.cell (p := ⟨w.heap.size, 3, none⟩) (by simp; omega)
  have s0 := hb1.cell (p := ⟨w.heap.size + 1, 0, none⟩) (by simp)
  have s1 := hb1.cell (p := ⟨w.heap.size + 1, 1, none⟩) (by simp)
  have r0 := hb1.cell (p := ⟨w.heap.size + 1 + 1, 0, none⟩) (by simp)
  have hz := hb1.size
  simp [go_sem] at c0 c1 c2 c3 s0 s1 r0 hz
  clear HG hb1 b1
  obtain ⟨B, hB⟩ : ∃ B, w.heap.size = B := ⟨_, rfl⟩
  rw [hB] at b2 c0 c1 c2 c3 s0 s1 r0 hz
  cases k1 : checkG W H S ld with
  | false =>
    have hE := Lib.hid (show argE (checkG W H S ld && nearS (sx, sy) && inB r 0 16777216) = 2 by rw [k1]; rfl)
    rw [argE_false]
    go_wp2_with fail
    exact bodyPost_ret (v := .tuple #[.slice none 0 0, .int .i64 2]) (by simp [results, Try.results27, go_sem]) rfl ⟨⟨[], _, by rw [hE.out], Lst.nil _, fun h => by simp [k1] at h⟩, hB.symm ▸ b2⟩
  | true =>
    rw [argE_true]
    obtain ⟨hW, hH, hS, -⟩ := checkG_iff k1
    have hN := near_gr (.slice (some ⟨w1.heap.size, 0, none⟩) 1 1) [(sx, sy)] _ (Lst_lit encS_len w1 w1.heap.size 1 rfl #[.int .i64 sx, .int .i64 sy] [(sx, sy)] 26 rfl rfl (by unfold maxLen; omega)) (by simp)
    have e1 : [(sx, sy)].all nearS = nearS (sx, sy) := by simp
    rw [e1] at hN
    have HN := Lib.hid hN
    clear hN e1
    rw [hB]
    go_wp2_with fail
    refine HN.out.mono ?_
    rintro e w2 ⟨rfl, hb2⟩
    have b3 : Below w1.heap.size w1 w2 := ((Below.refl _ _).alloc (Nat.le_refl _) _).trans (hb2.mono (by simp))
    have c0 := (b3.cell (p := ⟨B, 0, none⟩) (by show B < w1.heap.size; omega)).trans c0
    have c1 := (b3.cell (p := ⟨B, 1, none⟩) (by show B < w1.heap.size; omega)).trans c1
    have c2 := (b3.cell (p := ⟨B, 2, none⟩) (by show B < w1.heap.size; omega)).trans c2
    have c3 := (b3.cell (p := ⟨B, 3, none⟩) (by show B < w1.heap.size; omega)).trans c3
    have s0 := (b3.cell (p := ⟨B + 1, 0, none⟩) (by show B + 1 < w1.heap.size; omega)).trans s0
    have s1 := (b3.cell (p := ⟨B + 1, 1, none⟩) (by show B + 1 < w1.heap.size; omega)).trans s1
    have r0 := (b3.cell (p := ⟨B + 1 + 1, 0, none⟩) (by show B + 1 + 1 < w1.heap.size; omega)).trans r0
    have b4 := b2.trans (b3.mono (by omega))
    have hz2 := b3.size
    clear hb2 b3 HN
    cases k2 : nearS (sx, sy) with
    | false =>
      have hE := Lib.hid (show argE (checkG W H S ld && nearS (sx, sy) && inB r 0 16777216) = 2 by rw [k1, k2]; rfl)
      go_wp2_with fail
      exact bodyPost_ret (v := .tuple #[.slice none 0 0, .int .i64 2]) (by simp [results, Try.results27, go_sem]) rfl ⟨⟨[], _, by rw [hE.out], Lst.nil _, fun h => by simp [k2] at h⟩, hB.symm ▸ b4⟩
    | true =>
      have k2' := k2
      simp only [nearS, Bool.and_eq_true] at k2'
      have bx := nearC_iff k2'.1
      have by' := nearC_iff k2'.2
      clear k2'
      go_wp2_with fail
      refine (within_gr _ _ _ _).mono ?_
      rintro e w' ⟨rfl, rfl⟩
      cases k3 : inB r 0 16777216 with
      | false =>
        have hE := Lib.hid (show argE (checkG W H S ld && nearS (sx, sy) && inB r 0 16777216) = 2 by rw [k1, k2, k3]; rfl)
        go_wp2_with fail
        exact bodyPost_ret (v := .tuple #[.slice none 0 0, .int .i64 2]) (by simp [results, Try.results27, go_sem]) rfl ⟨⟨[], _, by rw [hE.out], Lst.nil _, fun h => by simp [k3] at h⟩, hB.symm ▸ b4⟩
      | true =>
        have hE := Lib.hid (show argE (checkG W H S ld && nearS (sx, sy) && inB r 0 16777216) = 0 by rw [k1, k2, k3]; rfl)
        have hr := inB_iff k3
        have eg : ∀ args w, (callFunc 70 args).run Try.prog w = .ok (.enter 70 args) w := enters_of Try.func70 (by kernel_rfl) rfl
        have hf := filled_ok W H S vL 70 #[.pointer (some ⟨B, 0, none⟩), .pointer (some ⟨B + 1, 0, none⟩), .pointer (some ⟨B + 1 + 1, 0, none⟩)] (discRow S sx sy r) w2 hW hH eg (fun y W' hyy hbl =>
          disc1_gr W H S sx sy r vL y B W' hS bx by' hr (by omega) (by have := hbl.size; omega)
            ((hbl.cell (p := ⟨B, 0, none⟩) (by show B < w2.heap.size; omega)).trans c0) ((hbl.cell (p := ⟨B, 1, none⟩) (by show B < w2.heap.size; omega)).trans c1) ((hbl.cell (p := ⟨B, 2, none⟩) (by show B < w2.heap.size; omega)).trans c2) ((hbl.cell (p := ⟨B, 3, none⟩) (by show B < w2.heap.size; omega)).trans c3)
            ((hbl.cell (p := ⟨B + 1, 0, none⟩) (by show B + 1 < w2.heap.size; omega)).trans s0) ((hbl.cell (p := ⟨B + 1, 1, none⟩) (by show B + 1 < w2.heap.size; omega)).trans s1) ((hbl.cell (p := ⟨B + 1 + 1, 0, none⟩) (by show B + 1 + 1 < w2.heap.size; omega)).trans r0)) (discRow_le S sx sy r hS bx hr)
        have HF := Lib.hid hf
        clear hf eg
        go_wp2_with fail
        refine HF.out.mono ?_
        rintro e w3 ⟨⟨R, hR, v, rfl, hv⟩, hb3⟩
        have HRg := Lib.hid hR
        have HV := Lib.hid hv
        clear hR hv
        go_wp2_with fail
        exact bodyPost_ret (v := .tuple #[v, .int .i64 0]) (by simp [results, Try.results27, go_sem]) rfl ⟨⟨R, v, by rw [hE.out], HV.out, fun _ => HRg.out⟩, hB.symm ▸ b4.trans (hb3.mono (by omega))⟩
end Go.Proofs.Ytnbdnnbeiohmgaa
/- grid.All; little, one, Same. -/
namespace Go.Proofs.Ytnbdnnbeiohmgaa
open Go.RowKit Go.Shelf Go.Lib

theorem all1_gr (W : Int) (y B : Nat) (w : World) (hW : 1 ≤ W ∧ W ≤ 256) (_hB : B < w.heap.size) (c0 : w.cell? ⟨B, 0, none⟩ = some (.int .i64 W)) :
    Calls Try.prog 89 #[.int .i64 y, .pointer (some ⟨B, 0, none⟩)] w fun e w' => e = .returned (.tuple #[.int .i64 0, .int .i64 (W - 1)]) ∧ Below w.heap.size w w' := by
  have e1 : IntKind.i64.wrap (W - 1) = W - 1 := wrapK _ (by omega) (by omega)
  have e2 : wrap64 (W - 1) = W - 1 := wrapId _ (by omega) (by omega)
  go_enter Try.func89, Try.ntmps89
  go_wp2_with fail
  go_quiet (fail)
  go_wp2_with fail
  exact bodyPost_ret (v := .tuple #[.int .i64 0, .int .i64 (W - 1)]) (by simp [results, Try.results89, go_sem]) rfl ⟨rfl, belowDrewN (Below.refl _ _) _⟩

set_option maxRecDepth 100000 in
set_option maxHeartbeats 4000000 in
theorem all_gr (W H S : Int) (vL : Value) (ld : List R3) (w : World) (h : Runs w vL ld) (k1 : checkG W H S ld = true) :
    Calls Try.prog 39 #[.agg #[.int .i64 W, .int .i64 H, .int .i64 S, vL]] w fun e w' =>
      (∃ R, RegOf (fillF W (fun _ => (0, W - 1)) H.toNat) R ∧ ∃ v, e = .returned (.tuple #[v, .int .i64 0]) ∧ Runs w' v R) ∧ Below w.heap.size w w' := by
  obtain ⟨hW, hH, hS, -⟩ := checkG_iff k1
  have b1 : Below w.heap.size w (w.alloc (.cells #[.int .i64 W, .int .i64 H, .int .i64 S, vL] 24)) := (Below.refl w.heap.size w).alloc (Nat.le_refl _) _
  have hG := checkGrid_gr W H S vL ld _ (h.below b1)
  rw [k1, argE_true] at hG
  have HG := Lib.hid hG
  clear hG h
  go_enter Try.func39, Try.ntmps39
  go_wp2_with fail
  refine HG.out.mono ?_
  rintro e w1 ⟨rfl, hb1⟩
  have b2 := b1.trans (hb1.mono (by simp))
  have c0 := hb1.cell (p := ⟨w.heap.size, 0, none⟩) (by simp)
  have c1 := hb1.cell (p := ⟨w.heap.size, 1, none⟩) (by simp)
  have c2 := hb1.cell (p := ⟨w.heap.size, 2, none⟩) (by simp)
  have c3 := hb1.cell (p := ⟨w.heap.size, 3, none⟩) (by simp)
  have hz := hb1.size
  simp [go_sem] at c0 c1 c2 c3 hz
  clear HG hb1 b1
  have eg : ∀ args w, (callFunc 89 args).run Try.prog w = .ok (.enter 89 args) w := enters_of Try.func89 (by kernel_rfl) rfl
  have hf := filled_ok W H S vL 89 #[.pointer (some ⟨w.heap.size, 0, none⟩)] (fun _ => (0, W - 1)) w1 hW hH eg (fun y W' hyy hbl => all1_gr W y w.heap.size W' hW (by have := hbl.size; omega) ((hbl.cell (p := ⟨w.heap.size, 0, none⟩) (by show w.heap.size < w1.heap.size; omega)).trans c0)) (fun y => by simp only; omega)
  have HF := Lib.hid hf
  clear hf eg
  go_wp2_with fail
  refine HF.out.mono ?_
  rintro e w3 ⟨⟨R, hR, v, rfl, hv⟩, hb3⟩
  have HRg := Lib.hid hR
  have HV := Lib.hid hv
  clear hR hv
  go_wp2_with fail
  exact bodyPost_ret (v := .tuple #[v, .int .i64 0]) (by simp [results, Try.results39, go_sem]) rfl ⟨⟨R, HRg.out, v, rfl, HV.out⟩, b2.trans (hb3.mono (by omega))⟩

/-- rows of one span at most -/
theorem MergeOf.single {l m : List S2} (h : MergeOf l m) (hl : l.length ≤ 1) : m = l := by
  obtain ⟨l', hp, -, rfl⟩ := h
  match l, hl with
  | [], _ => rw [hp.eq_nil]; rfl
  | [a], _ => rw [List.perm_singleton.1 hp]; rfl
theorem RegOf.single {f : Nat → List S2} {R : List R3} (h : RegOf f R) (hf : ∀ y, y < 256 → (f y).length ≤ 1) : R = rowsR f 256 := by
  obtain ⟨ms, hm, rfl⟩ := h
  unfold rowsR
  rw [List.flatMap_def, List.flatMap_def]
  refine congrArg List.flatten (List.map_congr_left fun y hy => ?_)
  rw [(hm y (List.mem_range.1 hy)).single (hf y (List.mem_range.1 hy))]

theorem little_gr (w : World) : Calls Try.prog 36 #[] w fun e w' => (∃ v, e = .returned (.agg #[.int .i64 4, .int .i64 3, .int .i64 10, v]) ∧ Runs w' v [(0, 0, 2)]) ∧ Below w.heap.size w w' := by
  go_enter Try.func36, Try.ntmps36
  go_wp2_with fail
  refine bodyPost_ret (v := .agg #[.int .i64 4, .int .i64 3, .int .i64 10, .slice (some ⟨w.heap.size + 1, 0, none⟩) 1 1]) (by simp [results, Try.results36, go_sem]) rfl ⟨⟨_, rfl, ?_⟩, ?_⟩
  · exact Lst_lit encR_len _ (w.heap.size + 1) 1 (by simp) #[.int .i64 0, .int .i64 0, .int .i64 2] [(0, 0, 2)] 72 rfl rfl (by unfold maxLen; omega)
  · exact ((Below.refl _ _).alloc (Nat.le_refl _) _).alloc (by simp) _

theorem one_gr (x y : Int) (w : World) (hx : -9223372036854775808 ≤ x + 1 ∧ x + 1 ≤ 9223372036854775807) : Calls Try.prog 17 #[.int .i64 x, .int .i64 y] w fun e w' => (∃ v, e = .returned v ∧ Runs w' v [(y, x, x + 1)]) ∧ Below w.heap.size w w' := by
  have e1 : wrap64 (x + 1) = x + 1 := wrapId _ (by omega) (by omega)
  have hlit := Lst_lit encR_len w w.heap.size 1 rfl #[.int .i64 y, .int .i64 x, .int .i64 (x + 1)] [(y, x, x + 1)] 72 rfl rfl (by unfold maxLen; omega)
  have HL := Lib.hid hlit
  clear hlit
  go_enter Try.func17, Try.ntmps17
  go_wp2_with fail
  go_ret
  exact ⟨⟨_, rfl, HL.out⟩, (Below.refl _ _).alloc (Nat.le_refl _) _⟩

set_option maxRecDepth 100000 in
set_option maxHeartbeats 4000000 in
/-- Same, of two lists that are the same -/
theorem same_gr (v u : Value) (l : List R3) (w : World) (h : Runs w v l) (k : Runs w u l) : Calls Try.prog 33 #[v, u] w fun e w' => e = .returned (.bool true) ∧ Below w.heap.size w w' := by
  obtain ⟨A1, c1, rfl, h1, h2, h3⟩ := h
  obtain ⟨A2, c2, rfl, g1, g2, g3⟩ := k
  unfold maxLen at h2 g2
  go_enter Try.func33, Try.ntmps33
  go_wp2_with fail
  go_loopw [5] (fun i wr => ∃ k : Nat, k ≤ l.length ∧ i = .int .i64 k ∧ Below w.heap.size w wr) (fun i _ => l.length - (intOf i).toNat)
  case atStart => exact ⟨0, Nat.zero_le _, rfl, Below.refl _ _⟩
  case round =>
    obtain ⟨k, hk, rfl, hb⟩ := hrel
    by_cases hlt : k < l.length
    · obtain ⟨b1, o1, rfl, hl1, m⟩ := h3 (by omega)
      obtain ⟨b2, o2, rfl, hl2, q⟩ := g3 (by omega)
      obtain ⟨⟨y, f, t⟩, hx⟩ : ∃ x, l[k]? = some x := ⟨_, List.getElem?_eq_getElem hlt⟩
      have m0 := (hb.cell (p := ⟨b1, o1 + k * 3, none⟩) hl1).trans (m k 0 _ _ hx rfl)
      have m1 := (hb.cell (p := ⟨b1, o1 + k * 3 + 1, none⟩) hl1).trans (m k 1 _ _ hx rfl)
      have m2 := (hb.cell (p := ⟨b1, o1 + k * 3 + 2, none⟩) hl1).trans (m k 2 _ _ hx rfl)
      have q0 := (hb.cell (p := ⟨b2, o2 + k * 3, none⟩) hl2).trans (q k 0 _ _ hx rfl)
      have q1 := (hb.cell (p := ⟨b2, o2 + k * 3 + 1, none⟩) hl2).trans (q k 1 _ _ hx rfl)
      have q2 := (hb.cell (p := ⟨b2, o2 + k * 3 + 2, none⟩) hl2).trans (q k 2 _ _ hx rfl)
      have hk0 : (0 : Int) ≤ (k : Int) := by omega
      have hk1 : (k : Int) < (l.length : Int) := by omega
      clear m q hx h3 g3
      go_wp2_with fail
      go_quiet (fail)
      go_wp2_with fail
      go_roundw
      case rel => exact ⟨k + 1, by omega, by go_num, belowDrewN hb _⟩
      case measure => simp [intOf]; omega
    · have hke : k = l.length := by omega
      subst hke
      go_wp2_with fail
      go_ret
      exact ⟨rfl, hb⟩
end Go.Proofs.Ytnbdnnbeiohmgaa
/- grid.others. -/
namespace Go.Proofs.Ytnbdnnbeiohmgaa
open Go.RowKit Go.Shelf Go.Lib

/-- the runs between those of a row: what is laid, where it stands, what is left -/
def othIn (y : Int) : Int → List R3 → List R3 × Int × List R3
  | p, [] => ([], p, [])
  | p, r :: l => if r.1 = y then ((if p < r.2.1 then [(y, p, r.2.1)] else []) ++ (othIn y r.2.2 l).1, (othIn y r.2.2 l).2) else ([], p, r :: l)
def othRow (W y : Int) (l : List R3) : List R3 × List R3 := ((othIn y 0 l).1 ++ (if (othIn y 0 l).2.1 < W then [(y, (othIn y 0 l).2.1, W)] else []), (othIn y 0 l).2.2)
def othF (W : Int) (l : List R3) : Nat → List R3 × List R3
  | 0 => ([], l)
  | n + 1 => ((othF W l n).1 ++ (othRow W n (othF W l n).2).1, (othRow W n (othF W l n).2).2)
theorem othIn_len (y : Int) : ∀ (l : List R3) (p : Int), (othIn y p l).1.length + (othIn y p l).2.2.length ≤ l.length := by
  intro l
  induction l with
  | nil => intro p; simp [othIn]
  | cons r l ih =>
    intro p
    simp only [othIn]
    by_cases h : r.1 = y
    · rw [if_pos h]
      have := ih r.2.2
      simp only [List.length_append, List.length_cons]
      split <;> simp <;> omega
    · rw [if_neg h]
      simp
theorem othF_len (W : Int) (l : List R3) : ∀ n, (othF W l n).1.length + (othF W l n).2.length ≤ l.length + n := by
  intro n
  induction n with
  | zero => simp [othF]
  | succ n ih =>
    have := othIn_len (n : Int) (othF W l n).2 0
    simp only [othF, othRow, List.length_append]
    split <;> simp <;> omega

/-- what Go's s[1:] is -/
theorem Runs.rest {w : World} {x : R3} {l : List R3} {b off n c : Nat} (h : Runs w (.slice (some ⟨b, off, none⟩) (n + 1) c) (x :: l)) : Runs w (.slice (if c = 1 then some ⟨b, off, none⟩ else some ⟨b, off + 3, none⟩) n (c - 1)) l := by
  have hn : n = l.length := by have := h.len; simpa using this
  obtain ⟨b', off', e', ht⟩ := h.tail
  cases e'
  by_cases hc : c = 1
  · obtain ⟨A', c', e, h1, h2, -⟩ := h
    cases e
    have hl : l = [] := List.eq_nil_of_length_eq_zero (by simp at h1; omega)
    subst hl
    exact ⟨_, _, rfl, by simp, by unfold maxLen at h2 ⊢; omega, fun h => by simp at h⟩
  · rw [if_neg hc]
    simpa using ht

set_option maxRecDepth 100000 in
set_option maxHeartbeats 16000000 in
theorem others_gr (W H S : Int) (vL v : Value) (l : List R3) (w : World) (_hW : 1 ≤ W ∧ W ≤ 256) (hH : 1 ≤ H ∧ H ≤ 256) (hl : Runs w v l) (hll : l.length ≤ 1000000) :
    Calls Try.prog 68 #[.agg #[.int .i64 W, .int .i64 H, .int .i64 S, vL], v] w fun e w' => (∃ u, e = .returned u ∧ Runs w' u (othF W l H.toNat).1 ∧ ∀ g, u.ownBlock = some g → w.heap.size ≤ g ∧ g < w'.heap.size) ∧ Below w.heap.size w w' := by
  have b1 : Below w.heap.size w (w.alloc (.cells #[.int .i64 W, .int .i64 H, .int .i64 S, vL] 24)) := (Below.refl w.heap.size w).alloc (Nat.le_refl _) _
  have HL := Lib.hid hl
  obtain ⟨A, c, rfl, -⟩ := hl
  go_enter Try.func68, Try.ntmps68
  go_wp2_with fail
  have c0 : (w.alloc (.cells #[.int .i64 W, .int .i64 H, .int .i64 S, vL] 24)).cell? ⟨w.heap.size, 0, none⟩ = some (.int .i64 W) := by simp [go_sem]
  have c1 : (w.alloc (.cells #[.int .i64 W, .int .i64 H, .int .i64 S, vL] 24)).cell? ⟨w.heap.size, 1, none⟩ = some (.int .i64 H) := by simp [go_sem]
  have z1 : (w.alloc (.cells #[.int .i64 W, .int .i64 H, .int .i64 S, vL] 24)).heap.size = w.heap.size + 1 := by simp
  obtain ⟨w1, hw1⟩ : ∃ w1, w.alloc (.cells #[.int .i64 W, .int .i64 H, .int .i64 S, vL] 24) = w1 := ⟨_, rfl⟩
  rw [hw1] at b1 c0 c1 z1 ⊢
  clear hw1
  obtain ⟨B, hB⟩ : ∃ B, w.heap.size = B := ⟨_, rfl⟩
  rw [hB] at b1 c0 c1 z1 ⊢
  go_loopw [1, 5, 10] (fun r o i wr => ∃ k : Nat, (k : Int) ≤ H ∧ i = .int .i64 k ∧ Runs w r (othF W l k).2 ∧ wr.ownsRow (B + 1) 72 3 o (othF W l k).1.length (flatE encR (othF W l k).1) ∧ wr.cell? ⟨B, 0, none⟩ = some (.int .i64 W) ∧ wr.cell? ⟨B, 1, none⟩ = some (.int .i64 H) ∧ Below B w wr ∧ B + 1 ≤ wr.heap.size) (fun _ _ i _ => H.toNat - (intOf i).toNat)
  case atStart => exact ⟨0, by simp; omega, rfl, HL.out, World.ownsRow_nil _ _ _ _, c0, c1, b1, by omega⟩
  case round =>
    obtain ⟨k, hk, rfl, hr, hown, d0, d1, hb, hz⟩ := hrel
    clear c0 c1 b1 z1
    by_cases hlt : (k : Int) < H
    · obtain ⟨O, hO⟩ : ∃ O, (othF W l k).1 = O := ⟨_, rfl⟩
      obtain ⟨r0, hr0⟩ : ∃ r0, (othF W l k).2 = r0 := ⟨_, rfl⟩
      have hfl := othF_len W l k
      rw [hO] at hown hfl
      rw [hr0] at hr hfl
      have hkk : k ≤ 255 := by omega
      obtain ⟨Z, hZ⟩ : ∃ Z, othIn (k : Int) 0 r0 = Z := ⟨_, rfl⟩
      have HO := Lib.hid hO
      have HR0 := Lib.hid hr0
      have HZ := Lib.hid hZ
      obtain ⟨A2, c2, rfl, -⟩ := (show Runs w u1 r0 from hr)
      have HRr := Lib.hid hr
      clear hO hr0 hZ hr
      go_wp2_with fail
      obtain ⟨V1, hV1⟩ : ∃ V1 : Value, V1 = .slice A2 r0.length c2 := ⟨_, rfl⟩
      rw [← hV1] at HRr ⊢
      clear hV1
      go_loopw [1, 5, 7] (fun r o p wq => ∃ (pp : Int) (E : List R3) (rr : List R3), p = .int .i64 pp ∧ Runs w r rr ∧ wq.ownsRow (B + 1) 72 3 o (O ++ E).length (flatE encR (O ++ E)) ∧ Hid (E ++ (othIn (k : Int) pp rr).1 = Z.1 ∧ (othIn (k : Int) pp rr).2 = Z.2) ∧ E.length + rr.length ≤ r0.length ∧
          wq.cell? ⟨B, 0, none⟩ = some (.int .i64 W) ∧ wq.cell? ⟨B, 1, none⟩ = some (.int .i64 H) ∧ Below B w wq ∧ B + 1 ≤ wq.heap.size) (fun r _ _ _ => match r with | .slice _ n _ => n | _ => 0)
      case atStart => exact ⟨0, [], r0, rfl, HRr.out, by simpa using hown, ⟨by rw [HZ.out]; rfl, by rw [HZ.out]⟩, by simp, d0, d1, hb, hz⟩
      case round =>
        obtain ⟨pp, E, rr, rfl, hrr, hown, hZZ, hEl, d0, d1, hb, hz⟩ := hrel
        cases rr with
        | nil =>
          obtain ⟨A4, c4, rfl, -⟩ := (show Runs w u1 [] from hrr)
          have hnil : (othIn (k : Int) pp []) = ([], pp, []) := rfl
          rw [hnil] at hZZ
          simp only [List.append_nil] at hZZ
          have hs2 : (othF W l (k + 1)).2 = [] := by simp only [othF, othRow]; rw [HR0.out, HZ.out, ← hZZ.2]
          have HS2 := Lib.hid hs2
          have HRr2 := Lib.hid hrr
          clear hs2 hrr
          by_cases hpW : pp < W
          · have hs1 : (othF W l (k + 1)).1 = (O ++ E) ++ [((k : Int), pp, W)] := by
              simp only [othF, othRow]
              rw [HO.out, HR0.out, HZ.out, ← hZZ.1, ← hZZ.2]
              simp [hpW]
            have HS1 := Lib.hid hs1
            clear hs1
            have hLl : (O ++ E).length ≤ 2000000 := by simp only [List.length_append]; omega
            obtain ⟨LL, hLL⟩ : ∃ q, O ++ E = q := ⟨_, rfl⟩
            rw [hLL] at hown hLl
            obtain ⟨i0, hi, hz0, hz1, hz2⟩ := info_parts infoRun
            have hown4 := hown.alloc (.cells #[.int .i64 (k : Int), .int .i64 pp, .int .i64 W] 72)
            have hBq : B + 1 ≤ (wr.alloc (.cells #[.int .i64 (k : Int), .int .i64 pp, .int .i64 W] 72)).heap.size := by simp; omega
            go_wp2_with (at_builtin; refine wpList_append_lies _ rfl _ _ _ rfl (B + 1) 72 i0 _ 3 24 Try.underlying22 hi hz0 hz1 hz2 rfl (by omega) u5 LL.length (flatE encR LL) rfl hown4 ⟨wr.heap.size, 0, none⟩ 1 1 [.int .i64 (k : Int), .int .i64 pp, .int .i64 W] rfl rfl (newsLit (cs := #[.int .i64 (k : Int), .int .i64 pp, .int .i64 W]) (by simp)) (by simp [Value.oneCell']) (by omega) (by unfold maxLen; omega) (by omega) hBq (wr.heap.size + 1) (by simp) ?_; intro gg cap5 w5 hown5 hgrow hat hlt5)
            have hb5 : Below B w w5 := (hb.alloc (by omega) _).grown hgrow (by simp; omega) (fun q hq => by have := (ownBlock_lt hown hq).1; omega)
            have hne5 : some B ≠ u5.ownBlock := fun e => by have := (ownBlock_lt hown e.symm).1; omega
            have d0 := (hgrow.cell_far ⟨B, 0, none⟩ (by simp; omega) hne5).trans ((World.cell?_alloc_lt wr _ ⟨B, 0, none⟩ (by show B < wr.heap.size; omega)).trans d0)
            have d1 := (hgrow.cell_far ⟨B, 1, none⟩ (by simp; omega) hne5).trans ((World.cell?_alloc_lt wr _ ⟨B, 1, none⟩ (by show B < wr.heap.size; omega)).trans d1)
            have hz5 : B + 1 ≤ w5.heap.size := by have := hgrow.size; simp at this; omega
            have hown5 : w5.ownsRow (B + 1) 72 3 (.slice (some ⟨gg, 0, none⟩) (LL.length + 1) cap5) (LL ++ [((k : Int), pp, W)]).length (flatE encR (LL ++ [((k : Int), pp, W)])) := by rw [flatE_append, List.length_append]; exact hown5
            go_roundw
            case rel => exact ⟨k + 1, by push_cast; omega, by go_num, by rw [HS2.out]; exact HRr2.out, by rw [HS1.out, hLL]; exact hown5, d0, d1, hb5, hz5⟩
            case measure => simp [intOf]; omega
          · have hs1 : (othF W l (k + 1)).1 = O ++ E := by
              simp only [othF, othRow]
              rw [HO.out, HR0.out, HZ.out, ← hZZ.1, ← hZZ.2]
              simp [hpW]
            have HS1 := Lib.hid hs1
            clear hs1
            have hpW' : W ≤ pp := by omega
            go_wp2_with fail
            go_roundw
            case rel => exact ⟨k + 1, by push_cast; omega, by go_num, by rw [HS2.out]; exact HRr2.out, by rw [HS1.out]; exact hown, d0, d1, hb, hz⟩
            case measure => simp [intOf]; omega
        | cons x rr =>
          obtain ⟨y, f, t⟩ := x
          obtain ⟨A4, c4, rfl, -, -, h3⟩ := (show Runs w u1 ((y, f, t) :: rr) from hrr)
          obtain ⟨b4, o4, rfl, hl4, hc4⟩ := h3 (by simp)
          have m0 := (hb.cell (p := ⟨b4, o4 + 0 * 3 + 0, none⟩) (by show b4 < B; omega)).trans (hc4 0 0 _ _ rfl rfl)
          have m1 := (hb.cell (p := ⟨b4, o4 + 0 * 3 + 1, none⟩) (by show b4 < B; omega)).trans (hc4 0 1 _ _ rfl rfl)
          have m2 := (hb.cell (p := ⟨b4, o4 + 0 * 3 + 2, none⟩) (by show b4 < B; omega)).trans (hc4 0 2 _ _ rfl rfl)
          simp only [Nat.zero_mul, Nat.add_zero] at m0 m1 m2
          by_cases hyk : y = (k : Int)
          · subst hyk
            have hbs : b4 < wr.heap.size := by omega
            have hoc : othIn (k : Int) pp (((k : Int), f, t) :: rr) = ((if pp < f then [((k : Int), pp, f)] else []) ++ (othIn (k : Int) t rr).1, (othIn (k : Int) t rr).2) := by simp [othIn]
            rw [hoc] at hZZ
            clear hoc
            by_cases hpf : pp < f
            · rw [if_pos hpf] at hZZ
              dsimp only at hZZ
              have HZZ := Lib.hid hZZ
              have HRR := Lib.hid hrr
              have hEl' : E.length + (rr.length + 1) ≤ r0.length := by simpa using hEl
              clear hZZ hrr hc4 h3 hEl
              have hLl : (O ++ E).length ≤ 2000000 := by simp only [List.length_append]; omega
              obtain ⟨LL, hLL⟩ : ∃ q, O ++ E = q := ⟨_, rfl⟩
              rw [hLL] at hown hLl
              obtain ⟨i0, hi, hz0, hz1, hz2⟩ := info_parts infoRun
              have hown4 := hown.alloc (.cells #[.int .i64 (k : Int), .int .i64 pp, .int .i64 f] 72)
              have hBq : B + 1 ≤ (wr.alloc (.cells #[.int .i64 (k : Int), .int .i64 pp, .int .i64 f] 72)).heap.size := by simp; omega
              have hneb : some b4 ≠ u5.ownBlock := fun e => by have := (ownBlock_lt hown e.symm).1; omega
              go_wp2_with (at_builtin; refine wpList_append_lies _ rfl _ _ _ rfl (B + 1) 72 i0 _ 3 24 Try.underlying22 hi hz0 hz1 hz2 rfl (by omega) u5 LL.length (flatE encR LL) rfl hown4 ⟨wr.heap.size, 0, none⟩ 1 1 [.int .i64 (k : Int), .int .i64 pp, .int .i64 f] rfl rfl (newsLit (cs := #[.int .i64 (k : Int), .int .i64 pp, .int .i64 f]) (by simp)) (by simp [Value.oneCell']) (by omega) (by unfold maxLen; omega) (by omega) hBq (wr.heap.size + 1) (by simp) ?_; intro gg cap5 w5 hown5 hgrow hat hlt5; have m0 := (hgrow.cell_far ⟨b4, o4, none⟩ (by simp; omega) hneb).trans ((World.cell?_alloc_lt wr _ ⟨b4, o4, none⟩ hbs).trans m0); have m1 := (hgrow.cell_far ⟨b4, o4 + 1, none⟩ (by simp; omega) hneb).trans ((World.cell?_alloc_lt wr _ ⟨b4, o4 + 1, none⟩ hbs).trans m1); have m2 := (hgrow.cell_far ⟨b4, o4 + 2, none⟩ (by simp; omega) hneb).trans ((World.cell?_alloc_lt wr _ ⟨b4, o4 + 2, none⟩ hbs).trans m2))
              have hb5 : Below B w w5 := (hb.alloc (by omega) _).grown hgrow (by simp; omega) (fun q hq => by have := (ownBlock_lt hown hq).1; omega)
              have hne5 : some B ≠ u5.ownBlock := fun e => by have := (ownBlock_lt hown e.symm).1; omega
              have d0 := (hgrow.cell_far ⟨B, 0, none⟩ (by simp; omega) hne5).trans ((World.cell?_alloc_lt wr _ ⟨B, 0, none⟩ (by show B < wr.heap.size; omega)).trans d0)
              have d1 := (hgrow.cell_far ⟨B, 1, none⟩ (by simp; omega) hne5).trans ((World.cell?_alloc_lt wr _ ⟨B, 1, none⟩ (by show B < wr.heap.size; omega)).trans d1)
              have hz5 : B + 1 ≤ w5.heap.size := by have := hgrow.size; simp at this; omega
              have hown5 : w5.ownsRow (B + 1) 72 3 (.slice (some ⟨gg, 0, none⟩) (LL.length + 1) cap5) (LL ++ [((k : Int), pp, f)]).length (flatE encR (LL ++ [((k : Int), pp, f)])) := by rw [flatE_append, List.length_append]; exact hown5
              go_quiet (fail)
              go_wp2_with fail
              go_roundw
              case rel => exact ⟨t, E ++ [((k : Int), pp, f)], rr, rfl, HRR.out.rest, by rw [← List.append_assoc, hLL]; exact hown5, ⟨by rw [List.append_assoc]; exact HZZ.out.1, HZZ.out.2⟩, by simp; omega, d0, d1, belowDrewN hb5 _, hz5⟩
              case measure => simp
            · have hpf' : f ≤ pp := by omega
              rw [if_neg hpf] at hZZ
              dsimp only at hZZ
              have HZZ := Lib.hid hZZ
              have HRR := Lib.hid hrr
              have hEl' : E.length + (rr.length + 1) ≤ r0.length := by simpa using hEl
              clear hZZ hrr hc4 h3 hEl
              go_wp2_with fail
              go_quiet (fail)
              go_wp2_with fail
              go_roundw
              case rel => exact ⟨t, E, rr, rfl, HRR.out.rest, hown, ⟨HZZ.out.1, HZZ.out.2⟩, by omega, d0, d1, belowDrewN hb _, hz⟩
              case measure => simp
          · have hyk' : (y == (k : Int)) = false := by simpa using hyk
            have hnil : (othIn (k : Int) pp ((y, f, t) :: rr)) = ([], pp, (y, f, t) :: rr) := by simp [othIn, hyk]
            rw [hnil] at hZZ
            simp only [List.append_nil] at hZZ
            clear hnil hc4 h3
            have hs2 : (othF W l (k + 1)).2 = (y, f, t) :: rr := by simp only [othF, othRow]; rw [HR0.out, HZ.out, ← hZZ.2]
            have HS2 := Lib.hid hs2
            have HRr2 := Lib.hid hrr
            clear hs2 hrr
            by_cases hpW : pp < W
            · have hs1 : (othF W l (k + 1)).1 = (O ++ E) ++ [((k : Int), pp, W)] := by
                simp only [othF, othRow]
                rw [HO.out, HR0.out, HZ.out, ← hZZ.1, ← hZZ.2]
                simp [hpW]
              have HS1 := Lib.hid hs1
              clear hs1
              have hLl : (O ++ E).length ≤ 2000000 := by simp only [List.length_append]; omega
              obtain ⟨LL, hLL⟩ : ∃ q, O ++ E = q := ⟨_, rfl⟩
              rw [hLL] at hown hLl
              obtain ⟨i0, hi, hz0, hz1, hz2⟩ := info_parts infoRun
              have hown4 := hown.alloc (.cells #[.int .i64 (k : Int), .int .i64 pp, .int .i64 W] 72)
              have hBq : B + 1 ≤ (wr.alloc (.cells #[.int .i64 (k : Int), .int .i64 pp, .int .i64 W] 72)).heap.size := by simp; omega
              go_wp2_with (at_builtin; refine wpList_append_lies _ rfl _ _ _ rfl (B + 1) 72 i0 _ 3 24 Try.underlying22 hi hz0 hz1 hz2 rfl (by omega) u5 LL.length (flatE encR LL) rfl hown4 ⟨wr.heap.size, 0, none⟩ 1 1 [.int .i64 (k : Int), .int .i64 pp, .int .i64 W] rfl rfl (newsLit (cs := #[.int .i64 (k : Int), .int .i64 pp, .int .i64 W]) (by simp)) (by simp [Value.oneCell']) (by omega) (by unfold maxLen; omega) (by omega) hBq (wr.heap.size + 1) (by simp) ?_; intro gg cap5 w5 hown5 hgrow hat hlt5)
              have hb5 : Below B w w5 := (hb.alloc (by omega) _).grown hgrow (by simp; omega) (fun q hq => by have := (ownBlock_lt hown hq).1; omega)
              have hne5 : some B ≠ u5.ownBlock := fun e => by have := (ownBlock_lt hown e.symm).1; omega
              have d0 := (hgrow.cell_far ⟨B, 0, none⟩ (by simp; omega) hne5).trans ((World.cell?_alloc_lt wr _ ⟨B, 0, none⟩ (by show B < wr.heap.size; omega)).trans d0)
              have d1 := (hgrow.cell_far ⟨B, 1, none⟩ (by simp; omega) hne5).trans ((World.cell?_alloc_lt wr _ ⟨B, 1, none⟩ (by show B < wr.heap.size; omega)).trans d1)
              have hz5 : B + 1 ≤ w5.heap.size := by have := hgrow.size; simp at this; omega
              have hown5 : w5.ownsRow (B + 1) 72 3 (.slice (some ⟨gg, 0, none⟩) (LL.length + 1) cap5) (LL ++ [((k : Int), pp, W)]).length (flatE encR (LL ++ [((k : Int), pp, W)])) := by rw [flatE_append, List.length_append]; exact hown5
              go_roundw
              case rel => exact ⟨k + 1, by push_cast; omega, by go_num, by rw [HS2.out]; exact HRr2.out, by rw [HS1.out, hLL]; exact hown5, d0, d1, hb5, hz5⟩
              case measure => simp [intOf]; omega
            · have hs1 : (othF W l (k + 1)).1 = O ++ E := by
                simp only [othF, othRow]
                rw [HO.out, HR0.out, HZ.out, ← hZZ.1, ← hZZ.2]
                simp [hpW]
              have HS1 := Lib.hid hs1
              clear hs1
              have hpW' : W ≤ pp := by omega
              go_wp2_with fail
              go_roundw
              case rel => exact ⟨k + 1, by push_cast; omega, by go_num, by rw [HS2.out]; exact HRr2.out, by rw [HS1.out]; exact hown, d0, d1, hb, hz⟩
              case measure => simp [intOf]; omega
    · have hke : (k : Int) = H := by omega
      have hkn : H.toNat = k := by omega
      have hfin := Lst_of_own encR_len hown rfl
      have hob : ∀ g, u5.ownBlock = some g → B ≤ g ∧ g < wr.heap.size := fun g hg => by have := ownBlock_lt hown hg; omega
      have HF := Lib.hid hfin
      have HK := Lib.hid hkn
      have HOB := Lib.hid hob
      clear hown hfin hkn hob
      go_wp2_with fail
      go_ret
      refine ⟨⟨u5, rfl, ?_, ?_⟩, ?_⟩
      · first | exact HF.out | (rw [HK.out]; exact HF.out)
      · first | exact HOB.out | (rw [hB]; exact HOB.out)
      · first | exact hb | (rw [hB]; exact hb)
end Go.Proofs.Ytnbdnnbeiohmgaa
/- The table that Grow lays: plain facts. -/
namespace Go.Proofs.Ytnbdnnbeiohmgaa
open Go.RowKit

def addRows (W H a t : Int) : Nat → Nat → (Nat → List S2) → (Nat → List S2)
  | 0, _, f => f
  | n + 1, y, f => addRows W H a t n (y + 1) (addF W H y a t f)
theorem addF_len (W H y a t : Int) (f : Nat → List S2) (i : Nat) : (addF W H y a t f i).length ≤ (f i).length + 1 := by
  unfold addF
  split
  · by_cases e : i = y.toNat
    · subst e; rw [upd_same]; simp
    · rw [upd_other _ _ e]; omega
  · omega
theorem addF_other {W H y a t : Int} {f : Nat → List S2} {i : Nat} (h : i ≠ y.toNat) : addF W H y a t f i = f i := by
  unfold addF
  split
  · rw [upd_other _ _ h]
  · rfl
theorem addF_mem {W H y a t : Int} {f : Nat → List S2} {i : Nat} {s : S2} (h : s ∈ addF W H y a t f i) : s ∈ f i ∨ ((i : Int) < H ∧ 0 ≤ s.1 ∧ s.1 < s.2 ∧ s.2 ≤ W) := by
  by_cases k : addOK W H y a t = true
  · rw [addF_yes k] at h
    by_cases e : i = y.toNat
    · subst e
      rw [upd_same] at h
      rcases List.mem_append.1 h with h | h
      · exact .inl h
      · simp at h
        subst h
        simp only [addOK, inB, Bool.and_eq_true, decide_eq_true_eq] at k
        right
        simp only
        omega
    · rw [upd_other _ _ e] at h
      exact .inl h
  · rw [addF_no (by simpa using k)] at h
    exact .inl h
theorem addF_keeps {W H y a t : Int} {f : Nat → List S2} {i : Nat} {x : Int} (h : inS x (f i)) : inS x (addF W H y a t f i) := by
  unfold addF
  split
  · by_cases e : i = y.toNat
    · subst e; rw [upd_same]; exact inS_append.2 (.inl h)
    · rw [upd_other _ _ e]; exact h
  · exact h
theorem addF_has {W H a t x : Int} {f : Nat → List S2} {i : Nat} (hi : (i : Int) < H) (hx : 0 ≤ x ∧ x < W) (h : a ≤ x ∧ x < t) : inS x (addF W H i a t f i) := by
  rw [addF_yes (by simp [addOK, inB]; omega), Int.toNat_natCast, upd_same]
  exact inS_append.2 (.inr (inS_one.2 (by simp only; omega)))

theorem addRows_len (W H a t : Int) : ∀ (n y : Nat) (f : Nat → List S2) (i : Nat), (addRows W H a t n y f i).length ≤ (f i).length + (if y ≤ i then 1 else 0) := by
  intro n
  induction n with
  | zero => intro y f i; simp [addRows]
  | succ n ih =>
    intro y f i
    have h1 := ih (y + 1) (addF W H y a t f) i
    simp only [addRows]
    by_cases e : i = y
    · subst e
      have h2 := addF_len W H i a t f i
      rw [if_neg (by omega)] at h1
      rw [if_pos (by omega)]
      omega
    · rw [addF_other (by simpa using e)] at h1
      by_cases hy : y ≤ i
      · rw [if_pos (by omega)] at h1
        rw [if_pos hy]
        omega
      · rw [if_neg (by omega)] at h1
        rw [if_neg hy]
        omega
theorem addRows_mem {W H a t : Int} : ∀ (n y : Nat) (f : Nat → List S2) (i : Nat) (s : S2), s ∈ addRows W H a t n y f i → s ∈ f i ∨ ((i : Int) < H ∧ 0 ≤ s.1 ∧ s.1 < s.2 ∧ s.2 ≤ W) := by
  intro n
  induction n with
  | zero => intro y f i s h; exact .inl h
  | succ n ih =>
    intro y f i s h
    rcases ih (y + 1) _ i s h with h | h
    · exact addF_mem h
    · exact .inr h
theorem addRows_keeps {W H a t : Int} : ∀ (n y : Nat) (f : Nat → List S2) (i : Nat) (x : Int), inS x (f i) → inS x (addRows W H a t n y f i) := by
  intro n
  induction n with
  | zero => intro y f i x h; exact h
  | succ n ih => intro y f i x h; exact ih (y + 1) _ i x (addF_keeps h)
theorem addRows_has {W H a t x : Int} : ∀ (n y : Nat) (f : Nat → List S2) (i : Nat), y ≤ i → i < y + n → (i : Int) < H → 0 ≤ x ∧ x < W → a ≤ x ∧ x < t → inS x (addRows W H a t n y f i) := by
  intro n
  induction n with
  | zero => intro y f i h1 h2; omega
  | succ n ih =>
    intro y f i h1 h2 hH hx h
    by_cases e : i = y
    · subst e
      exact addRows_keeps n _ _ _ _ (addF_has hH hx h)
    · exact ih (y + 1) _ i (by omega) (by omega) hH hx h

/-- how a run grows: so many cells to the west, the east, the south, the north -/
structure Lead where
  we : Int
  ea : Int
  so : Int
  no : Int
def growOne (W H : Int) (L : Lead) (r : R3) (f : Nat → List S2) : Nat → List S2 :=
  addRows W H (wrap64 (r.2.1 + L.we)) (wrap64 (r.2.2 + L.ea)) (min (r.1 + L.no) (H - 1) + 1 - max 0 (r.1 + L.so)).toNat (max 0 (r.1 + L.so)).toNat f
def growF (W H : Int) (L : Lead) (l : List R3) : Nat → List S2 := l.foldl (fun f r => growOne W H L r f) fun _ => []
theorem growF_snoc (W H : Int) (L : Lead) (l : List R3) (r : R3) : growF W H L (l ++ [r]) = growOne W H L r (growF W H L l) := by simp [growF]
theorem growF_take {W H : Int} {L : Lead} {l : List R3} {k : Nat} {r : R3} (h : l[k]? = some r) : growF W H L (l.take (k + 1)) = growOne W H L r (growF W H L (l.take k)) := by
  rw [List.take_add_one, h]
  exact growF_snoc _ _ _ _ _
theorem growF_len (W H : Int) (L : Lead) (l : List R3) (i : Nat) : (growF W H L l i).length ≤ l.length := by
  have key : ∀ (l : List R3) (f : Nat → List S2), (l.foldl (fun f r => growOne W H L r f) f i).length ≤ (f i).length + l.length := by
    intro l
    induction l with
    | nil => intro f; simp
    | cons r l ih =>
      intro f
      have h1 := ih (growOne W H L r f)
      have h2 : (growOne W H L r f i).length ≤ (f i).length + 1 := by
        have := addRows_len W H (wrap64 (r.2.1 + L.we)) (wrap64 (r.2.2 + L.ea)) (min (r.1 + L.no) (H - 1) + 1 - max 0 (r.1 + L.so)).toNat (max 0 (r.1 + L.so)).toNat f i
        unfold growOne
        split at this <;> omega
      simp only [List.foldl_cons, List.length_cons]
      omega
  have := key l (fun _ => [])
  simpa [growF] using this
theorem growF_mem {W H : Int} {L : Lead} {l : List R3} {i : Nat} {s : S2} (h : s ∈ growF W H L l i) : (i : Int) < H ∧ 0 ≤ s.1 ∧ s.1 < s.2 ∧ s.2 ≤ W := by
  have key : ∀ (l : List R3) (f : Nat → List S2), s ∈ l.foldl (fun f r => growOne W H L r f) f i → s ∈ f i ∨ ((i : Int) < H ∧ 0 ≤ s.1 ∧ s.1 < s.2 ∧ s.2 ≤ W) := by
    intro l
    induction l with
    | nil => intro f h; exact .inl h
    | cons r l ih =>
      intro f h
      rcases ih _ h with h | h
      · exact addRows_mem _ _ _ _ _ h
      · exact .inr h
  rcases key l _ h with h | h
  · simp at h
  · exact h
theorem growF_has {W H : Int} {L : Lead} {l : List R3} {r : R3} {i : Nat} {x : Int} (hr : r ∈ l) (hi : (i : Int) < H) (hy : r.1 + L.so ≤ i ∧ (i : Int) ≤ r.1 + L.no) (hx : 0 ≤ x ∧ x < W) (h : wrap64 (r.2.1 + L.we) ≤ x ∧ x < wrap64 (r.2.2 + L.ea)) : inS x (growF W H L l i) := by
  have keep : ∀ (l : List R3) (f : Nat → List S2), inS x (f i) → inS x (l.foldl (fun f r => growOne W H L r f) f i) := by
    intro l
    induction l with
    | nil => intro f h; exact h
    | cons r l ih => intro f h; exact ih _ (addRows_keeps _ _ _ _ _ h)
  have key : ∀ (l : List R3) (f : Nat → List S2), r ∈ l → inS x (l.foldl (fun f r => growOne W H L r f) f i) := by
    intro l
    induction l with
    | nil => intro f h; simp at h
    | cons q l ih =>
      intro f hm
      rcases List.mem_cons.1 hm with e | e
      · subst e
        refine keep l _ ?_
        unfold growOne
        exact addRows_has _ _ _ _ (by omega) (by omega) hi hx h
      · exact ih _ e
  exact key l _ hr

def offR (W H : Int) (L : Lead) (r : R3) : Bool := decide (wrap64 (r.2.1 + L.we) < 0) || decide (W < wrap64 (r.2.2 + L.ea)) || decide (r.1 + L.so < 0) || decide (H ≤ r.1 + L.no)
def offL (W H : Int) (L : Lead) (l : List R3) : Bool := l.any (offR W H L)
theorem offL_take {W H : Int} {L : Lead} {l : List R3} {k : Nat} {r : R3} (h : l[k]? = some r) : offL W H L (l.take (k + 1)) = (offL W H L (l.take k) || offR W H L r) := by
  rw [List.take_add_one, h]
  simp [offL]
end Go.Proofs.Ytnbdnnbeiohmgaa
/- grid's table.both. -/
namespace Go.Proofs.Ytnbdnnbeiohmgaa
open Go.RowKit Go.Shelf Go.Lib

theorem Lst.keepBlock {α : Type} {k : Nat} {enc : α → List Value} {w w' : World} {v : Value} {l : List α} (h : Lst k enc w v l) (hs : w.heap.size ≤ w'.heap.size) (hb : ∀ g, v.ownBlock = some g → 0 < l.length → w'.heap[g]? = w.heap[g]?) : Lst k enc w' v l := by
  obtain ⟨A, c, rfl, h1, h2, h3⟩ := h
  refine ⟨A, c, rfl, h1, h2, fun h0 => ?_⟩
  obtain ⟨b, off, rfl, hbl, hc⟩ := h3 h0
  exact ⟨b, off, rfl, by omega, fun j i x u hj hi => (World.cell?_of_block (a := ⟨b, off + j * k + i, none⟩) (hb b rfl h0)).trans (hc j i x u hj hi)⟩

/-- a slice's block is no part of the table -/
def Far (w : World) (T : Nat) (vs : Nat → Value) (v : Value) (l : List R3) : Prop := ∀ g, v.ownBlock = some g → 0 < l.length → g ≠ T ∧ g < w.heap.size ∧ ∀ i, i < 256 → (vs i).ownBlock ≠ some g

def goA (x y : R3) : Bool := decide (x.1 < y.1) || (x.1 == y.1 && decide (x.2.2 < y.2.2))
def meet (W H : Int) (x y : R3) (f : Nat → List S2) : Nat → List S2 := if x.1 = y.1 then addF W H x.1 (max x.2.1 y.2.1) (min x.2.2 y.2.2) f else f
def bothF (W H : Int) : Nat → List R3 → List R3 → (Nat → List S2) → (Nat → List S2)
  | n + 1, x :: a, y :: b, f => if goA x y then bothF W H n a (y :: b) (meet W H x y f) else bothF W H n (x :: a) b (meet W H x y f)
  | _, _, _, f => f
theorem bothF_nilA (W H : Int) (n : Nat) (b : List R3) (f : Nat → List S2) : bothF W H n [] b f = f := by cases n <;> rfl
theorem bothF_nilB (W H : Int) (n : Nat) (a : List R3) (f : Nat → List S2) : bothF W H n a [] f = f := by cases n <;> cases a <;> rfl
theorem meet_len (W H : Int) (x y : R3) (f : Nat → List S2) (i : Nat) : (meet W H x y f i).length ≤ (f i).length + 1 := by
  unfold meet
  split
  · exact addF_len _ _ _ _ _ _ _
  · omega

theorem bothF_stepA {W H : Int} {x y : R3} {al bl : List R3} {f : Nat → List S2} (h : goA x y = true) : bothF W H ((x :: al).length + (y :: bl).length) (x :: al) (y :: bl) f = bothF W H (al.length + (y :: bl).length) al (y :: bl) (meet W H x y f) := by
  rw [show (x :: al).length + (y :: bl).length = (al.length + (y :: bl).length) + 1 by simp only [List.length_cons]; omega, bothF, if_pos h]
theorem bothF_stepB {W H : Int} {x y : R3} {al bl : List R3} {f : Nat → List S2} (h : goA x y = false) : bothF W H ((x :: al).length + (y :: bl).length) (x :: al) (y :: bl) f = bothF W H ((x :: al).length + bl.length) (x :: al) bl (meet W H x y f) := by
  rw [show (x :: al).length + (y :: bl).length = ((x :: al).length + bl.length) + 1 by simp only [List.length_cons]; omega, bothF, if_neg (by rw [h]; exact Bool.false_ne_true)]
theorem Far.rest {w : World} {T : Nat} {vs : Nat → Value} {b o n c m d : Nat} {x : R3} {l : List R3} (h : Far w T vs (.slice (some ⟨b, o, none⟩) n c) (x :: l)) : Far w T vs (.slice (if c = 1 then some ⟨b, o, none⟩ else some ⟨b, o + 3, none⟩) m d) l := by
  intro g hg h0
  refine h g ?_ (by simp)
  split at hg <;> simpa [Value.ownBlock] using hg
theorem Untouched.far {w w' : World} {T : Nat} {vs vs' : Nat → Value} {v : Value} {l : List R3} (h : Untouched w w' T vs vs') (hs : w.heap.size ≤ w'.heap.size) (hf : Far w T vs v l) : Far w' T vs' v l ∧ ∀ g, v.ownBlock = some g → 0 < l.length → w'.heap[g]? = w.heap[g]? :=
  ⟨fun g hg h0 => ⟨(hf g hg h0).1, Nat.lt_of_lt_of_le (hf g hg h0).2.1 hs, (h g (hf g hg h0).2.1 (hf g hg h0).1 (hf g hg h0).2.2).2⟩, fun g hg h0 => (h g (hf g hg h0).2.1 (hf g hg h0).1 (hf g hg h0).2.2).1⟩

set_option maxRecDepth 100000 in
set_option maxHeartbeats 16000000 in
theorem both_gr (W H S : Int) (vL va vb : Value) (a b : List R3) (T : Nat) (vs : Nat → Value) (f : Nat → List S2) (w : World) (hW : 1 ≤ W ∧ W ≤ 256) (hH : 1 ≤ H ∧ H ≤ 256) (hT : Tab w T vs f) (ha : Runs w va a) (hb : Runs w vb b) (hfa : Far w T vs va a) (hfb : Far w T vs vb b)
    (hlen : ∀ i, (f i).length + (a.length + b.length) ≤ 1000000) :
    Calls Try.prog 67 #[.pointer (some ⟨T, 0, none⟩), .agg #[.int .i64 W, .int .i64 H, .int .i64 S, vL], va, vb] w fun e w' =>
      e = .returned (.tuple #[]) ∧ (∃ vs', Tab w' T vs' (bothF W H (a.length + b.length) a b f)) ∧ Below T w w' := by
  have hTl := hT.lt
  have b1 : Below w.heap.size w (w.alloc (.cells #[.int .i64 W, .int .i64 H, .int .i64 S, vL] 24)) := (Below.refl w.heap.size w).alloc (Nat.le_refl _) _
  have hT1 := hT.below b1
  have ha1 := ha.below b1
  have hb1 := hb.below b1
  have hB1 : ∀ i, i < 256 → (vs i).ownBlock ≠ some w.heap.size := fun i hi e => by have := (ownBlock_lt (hT.own i hi) e).2; omega
  have hfa1 : Far (w.alloc (.cells #[.int .i64 W, .int .i64 H, .int .i64 S, vL] 24)) T vs va a := fun g hg h0 => ⟨(hfa g hg h0).1, by have := (hfa g hg h0).2.1; simp; omega, (hfa g hg h0).2.2⟩
  have hfb1 : Far (w.alloc (.cells #[.int .i64 W, .int .i64 H, .int .i64 S, vL] 24)) T vs vb b := fun g hg h0 => ⟨(hfb g hg h0).1, by have := (hfb g hg h0).2.1; simp; omega, (hfb g hg h0).2.2⟩
  obtain ⟨Aa, ca, ea, -⟩ := (show Runs w va a from ha)
  obtain ⟨Ab, cb, eb, -⟩ := (show Runs w vb b from hb)
  clear ha hb hfa hfb hT
  go_enter Try.func67, Try.ntmps67
  go_wp2_with fail
  have c0 : (w.alloc (.cells #[.int .i64 W, .int .i64 H, .int .i64 S, vL] 24)).cell? ⟨w.heap.size, 0, none⟩ = some (.int .i64 W) := by simp [go_sem]
  have c1 : (w.alloc (.cells #[.int .i64 W, .int .i64 H, .int .i64 S, vL] 24)).cell? ⟨w.heap.size, 1, none⟩ = some (.int .i64 H) := by simp [go_sem]
  have c2 : (w.alloc (.cells #[.int .i64 W, .int .i64 H, .int .i64 S, vL] 24)).cell? ⟨w.heap.size, 2, none⟩ = some (.int .i64 S) := by simp [go_sem]
  have c3 : (w.alloc (.cells #[.int .i64 W, .int .i64 H, .int .i64 S, vL] 24)).cell? ⟨w.heap.size, 3, none⟩ = some vL := by simp [go_sem]
  have bT : Below T w (w.alloc (.cells #[.int .i64 W, .int .i64 H, .int .i64 S, vL] 24)) := (Below.refl T w).alloc (by omega) _
  have z1 : w.heap.size < (w.alloc (.cells #[.int .i64 W, .int .i64 H, .int .i64 S, vL] 24)).heap.size := by simp
  obtain ⟨w1, hw1⟩ : ∃ w1, w.alloc (.cells #[.int .i64 W, .int .i64 H, .int .i64 S, vL] 24) = w1 := ⟨_, rfl⟩
  rw [hw1] at b1 hT1 ha1 hb1 hfa1 hfb1 c0 c1 c2 c3 bT z1 ⊢
  clear hw1 b1
  obtain ⟨B, hB⟩ : ∃ B, w.heap.size = B := ⟨_, rfl⟩
  rw [hB] at hB1 c0 c1 c2 c3 z1 hTl ⊢
  obtain ⟨fE, hfE⟩ : ∃ q, bothF W H (a.length + b.length) a b f = q := ⟨_, rfl⟩
  have HE := Lib.hid hfE
  clear hfE
  subst ea eb
  obtain ⟨va, hva⟩ : ∃ va : Value, va = .slice Aa a.length ca := ⟨_, rfl⟩
  obtain ⟨vb, hvb⟩ : ∃ vb : Value, vb = .slice Ab b.length cb := ⟨_, rfl⟩
  rw [← hva] at ha1 hfa1 ⊢
  rw [← hvb] at hb1 hfb1 ⊢
  clear hva hvb
  go_loopw [2, 3] (fun xa xb wr => ∃ (al bl : List R3) (vs : Nat → Value) (fc : Nat → List S2), Runs wr xa al ∧ Runs wr xb bl ∧ Tab wr T vs fc ∧ Far wr T vs xa al ∧ Far wr T vs xb bl ∧ (∀ i, i < 256 → (vs i).ownBlock ≠ some B) ∧ bothF W H (al.length + bl.length) al bl fc = fE ∧ (∀ i, (fc i).length + (al.length + bl.length) ≤ 1000000) ∧
      wr.cell? ⟨B, 0, none⟩ = some (.int .i64 W) ∧ wr.cell? ⟨B, 1, none⟩ = some (.int .i64 H) ∧ wr.cell? ⟨B, 2, none⟩ = some (.int .i64 S) ∧ wr.cell? ⟨B, 3, none⟩ = some vL ∧ B < wr.heap.size ∧ Below T w wr)
    (fun xa xb _ => (match xa with | .slice _ n _ => n | _ => 0) + (match xb with | .slice _ n _ => n | _ => 0))
  case atStart => exact ⟨a, b, vs, f, ha1, hb1, hT1, hfa1, hfb1, hB1, HE.out, hlen, c0, c1, c2, c3, z1, bT⟩
  case round =>
    obtain ⟨al, bl, vs2, fc, hra, hrb, hTc, hfa, hfb, hvB, hrun, hfl, d0, d1, d2, d3, hBl, hbt⟩ := hrel
    clear ha1 hb1 hT1 hfa1 hfb1 hB1 hlen c0 c1 c2 c3 z1 bT
    have HRn := Lib.hid hrun
    have HFl := Lib.hid hfl
    have HVB := Lib.hid hvB
    clear hrun hfl hvB
    cases al with
    | nil =>
      obtain ⟨A4, c4, rfl, -⟩ := (show Runs wr u2 [] from hra)
      have hfe : fc = fE := by rw [← HRn.out, bothF_nilA]
      subst hfe
      go_wp2_with fail
      go_end0
      exact ⟨rfl, ⟨vs2, by rw [HE.out]; exact hTc⟩, hbt⟩
    | cons x al =>
      cases bl with
      | nil =>
        obtain ⟨A4, c4, rfl, -⟩ := (show Runs wr u2 (x :: al) from hra)
        obtain ⟨A5, c5, rfl, -⟩ := (show Runs wr u3 [] from hrb)
        have hfe : fc = fE := by rw [← HRn.out, bothF_nilB]
        subst hfe
        go_wp2_with fail
        go_end0
        exact ⟨rfl, ⟨vs2, by rw [HE.out]; exact hTc⟩, hbt⟩
      | cons y bl =>
        obtain ⟨y1, f1, t1⟩ := x
        obtain ⟨y2, f2, t2⟩ := y
        obtain ⟨A4, c4, rfl, -, -, h4⟩ := (show Runs wr u2 ((y1, f1, t1) :: al) from hra)
        obtain ⟨b4, o4, rfl, hl4, hc4⟩ := h4 (by simp)
        obtain ⟨A5, c5, rfl, -, -, h5⟩ := (show Runs wr u3 ((y2, f2, t2) :: bl) from hrb)
        obtain ⟨b5, o5, rfl, hl5, hc5⟩ := h5 (by simp)
        have m0 := hc4 0 0 _ _ rfl rfl
        have m1 := hc4 0 1 _ _ rfl rfl
        have m2 := hc4 0 2 _ _ rfl rfl
        have q0 := hc5 0 0 _ _ rfl rfl
        have q1 := hc5 0 1 _ _ rfl rfl
        have q2 := hc5 0 2 _ _ rfl rfl
        simp only [Nat.zero_mul, Nat.add_zero] at m0 m1 m2 q0 q1 q2
        clear hc4 hc5 h4 h5
        go_upto_region 2 with fail
        have n4 : b4 < wr.heap.size := hl4
        have n5 : b5 < wr.heap.size := hl5
        have nb4 := World.new_ne wr ⟨b4, o4, none⟩ m0
        have nb5 := World.new_ne wr ⟨b5, o5, none⟩ q0
        go_cut [2, 3, 8, 9] from 10 to 66 (fun sa sb p q wx => sa = .slice (some ⟨b4, o4, none⟩) (al.length + 1) c4 ∧ sb = .slice (some ⟨b5, o5, none⟩) (bl.length + 1) c5 ∧ ∃ X1 X2, p = .pointer (some ⟨X1, 0, none⟩) ∧ q = .pointer (some ⟨X2, 0, none⟩) ∧
          wr.heap.size ≤ X1 ∧ wr.heap.size ≤ X2 ∧ X1 < wx.heap.size ∧ X2 < wx.heap.size ∧ Below wr.heap.size wr wx ∧ wx.cell? ⟨X1, 0, none⟩ = some (.int .i64 y1) ∧ wx.cell? ⟨X1, 1, none⟩ = some (.int .i64 f1) ∧ wx.cell? ⟨X1, 2, none⟩ = some (.int .i64 t1) ∧
          wx.cell? ⟨X2, 0, none⟩ = some (.int .i64 y2) ∧ wx.cell? ⟨X2, 1, none⟩ = some (.int .i64 f2) ∧ wx.cell? ⟨X2, 2, none⟩ = some (.int .i64 t2))
        case first =>
          go_region_held3 (fun W' => W'.cell? ⟨b4, o4, none⟩ = some (.int .i64 y1) ∧ W'.cell? ⟨b4, o4 + 1, none⟩ = some (.int .i64 f1) ∧ W'.cell? ⟨b4, o4 + 2, none⟩ = some (.int .i64 t1) ∧ W'.cell? ⟨b5, o5, none⟩ = some (.int .i64 y2) ∧ W'.cell? ⟨b5, o5 + 1, none⟩ = some (.int .i64 f2) ∧ W'.cell? ⟨b5, o5 + 2, none⟩ = some (.int .i64 t2)) (first | exact ⟨m0, m1, m2, q0, q1, q2⟩ | go_keep | (simp [go_sem, m0, m1, m2, q0, q1, q2, n4, n5]; done)) (fail)
          all_goals
            go_wp2_with fail
            go_meet
            go_light
          · exact ⟨rfl, rfl, wr.heap.size, wr.heap.size + 1, rfl, rfl, by omega, by omega, by simp <;> omega, by simp <;> omega, (by first | exact ((Below.refl _ _).alloc (Nat.le_refl _) _).alloc (by simp) _ | exact belowDrew (((Below.refl _ _).alloc (Nat.le_refl _) _).alloc (by simp) _) | exact ((Below.refl wr.heap.size wr.drew).alloc (Nat.le_refl _) _).alloc (by simp) _), by simp [go_sem], by simp [go_sem], by simp [go_sem], by simp [go_sem], by simp [go_sem], by simp [go_sem]⟩
          · exact ⟨rfl, rfl, wr.heap.size + 1, wr.heap.size, rfl, rfl, by omega, by omega, by simp <;> omega, by simp <;> omega, (by first | exact ((Below.refl _ _).alloc (Nat.le_refl _) _).alloc (by simp) _ | exact belowDrew (((Below.refl _ _).alloc (Nat.le_refl _) _).alloc (by simp) _) | exact ((Below.refl wr.heap.size wr.drew).alloc (Nat.le_refl _) _).alloc (by simp) _), by simp [go_sem], by simp [go_sem], by simp [go_sem], by simp [go_sem], by simp [go_sem], by simp [go_sem]⟩
        case rest =>
          obtain ⟨rfl, rfl, X1, X2, rfl, rfl, hX1, hX2, hX1l, hX2l, hbx, x0, x1, x2, z0, z1, z2⟩ := hcut
          have hTl2 := hTc.lt
          have hT3 := hTc.below hbx
          have hra3 := hra.below hbx
          have hrb3 := hrb.below hbx
          have hfa3 : Far wc T vs2 (.slice (some ⟨b4, o4, none⟩) (al.length + 1) c4) ((y1, f1, t1) :: al) := fun g hg h0 => ⟨(hfa g hg h0).1, Nat.lt_of_lt_of_le (hfa g hg h0).2.1 hbx.size, (hfa g hg h0).2.2⟩
          have hfb3 : Far wc T vs2 (.slice (some ⟨b5, o5, none⟩) (bl.length + 1) c5) ((y2, f2, t2) :: bl) := fun g hg h0 => ⟨(hfb g hg h0).1, Nat.lt_of_lt_of_le (hfb g hg h0).2.1 hbx.size, (hfb g hg h0).2.2⟩
          have d0 := (hbx.cell (p := ⟨B, 0, none⟩) hBl).trans d0
          have d1 := (hbx.cell (p := ⟨B, 1, none⟩) hBl).trans d1
          have d2 := (hbx.cell (p := ⟨B, 2, none⟩) hBl).trans d2
          have d3 := (hbx.cell (p := ⟨B, 3, none⟩) hBl).trans d3
          have hBl3 := Nat.lt_of_lt_of_le hBl hbx.size
          have hbt3 := hbt.trans (hbx.mono (by omega))
          have hv1 : ∀ i, i < 256 → (vs2 i).ownBlock ≠ some X1 := fun i hi e => by have := (ownBlock_lt (hTc.own i hi) e).2; omega
          have hv2 : ∀ i, i < 256 → (vs2 i).ownBlock ≠ some X2 := fun i hi e => by have := (ownBlock_lt (hTc.own i hi) e).2; omega
          have HV1 := Lib.hid hv1
          have HV2 := Lib.hid hv2
          clear hv1 hv2 hTc hra hrb hfa hfb m0 m1 m2 q0 q1 q2 nb4 nb5 hbt
          by_cases hyy : y1 = y2
          · subst hyy
            have hadd := add_gr W H S y1 (max f1 f2) (min t1 t2) vL T vs2 fc wc hW hH hT3 (fun i _ => by have := HFl.out i; omega)
            have HA := Lib.hid hadd
            clear hadd
            obtain ⟨mf, hmf⟩ : ∃ q, max f1 f2 = q := ⟨_, rfl⟩
            obtain ⟨mt, hmt⟩ : ∃ q, min t1 t2 = q := ⟨_, rfl⟩
            rw [hmf, hmt] at HA
            have hmeet : meet W H (y1, f1, t1) (y1, f2, t2) fc = addF W H y1 mf mt fc := by simp [meet, hmf, hmt]
            have HM := Lib.hid hmeet
            clear hmeet
            go_wp2_with fail
            refine HA.out.mono ?_
            rintro e w4 ⟨rfl, ⟨vs3, hT4, hun⟩, hb4⟩
            have hwc := Lib.hid hun
            obtain ⟨ux1, -⟩ := hun X1 hX1l (by omega) HV1.out
            obtain ⟨ux2, -⟩ := hun X2 hX2l (by omega) HV2.out
            have x0 := (World.cell?_of_block (a := ⟨X1, 0, none⟩) ux1).trans x0
            have x1 := (World.cell?_of_block (a := ⟨X1, 1, none⟩) ux1).trans x1
            have x2 := (World.cell?_of_block (a := ⟨X1, 2, none⟩) ux1).trans x2
            have z0 := (World.cell?_of_block (a := ⟨X2, 0, none⟩) ux2).trans z0
            have z1 := (World.cell?_of_block (a := ⟨X2, 1, none⟩) ux2).trans z1
            have z2 := (World.cell?_of_block (a := ⟨X2, 2, none⟩) ux2).trans z2
            obtain ⟨hfa4, ka⟩ := hun.far hb4.size hfa3
            obtain ⟨hfb4, kb⟩ := hun.far hb4.size hfb3
            have hra4 := hra3.keepBlock hb4.size ka
            have hrb4 := hrb3.keepBlock hb4.size kb
            obtain ⟨uB, vB⟩ := hun B hBl3 (by omega) HVB.out
            have d0 := (World.cell?_of_block (a := ⟨B, 0, none⟩) uB).trans d0
            have d1 := (World.cell?_of_block (a := ⟨B, 1, none⟩) uB).trans d1
            have d2 := (World.cell?_of_block (a := ⟨B, 2, none⟩) uB).trans d2
            have d3 := (World.cell?_of_block (a := ⟨B, 3, none⟩) uB).trans d3
            have hBl4 := Nat.lt_of_lt_of_le hBl3 hb4.size
            have hbt4 := hbt3.trans hb4
            have VB := Lib.hid vB
            clear hwc hun ka kb hra3 hrb3 hfa3 hfb3 hT3 hbx vB HA
            have hirr : (y1 < y1) = False := by simp
            by_cases htt : t1 < t2
            · have hga : goA (y1, f1, t1) (y1, f2, t2) = true := by simp [goA, htt]
              have HG := Lib.hid hga
              clear hga
              go_wp2_with fail
              go_roundw
              case rel => exact ⟨al, (y1, f2, t2) :: bl, vs3, _, Runs.rest hra4, hrb4, hT4, hfa4.rest, hfb4, VB.out, by rw [← HRn.out, bothF_stepA HG.out, HM.out], fun i => by have := HFl.out i; have := addF_len W H y1 mf mt fc i; simp only [List.length_cons] at *; omega, d0, d1, d2, d3, hBl4, hbt4⟩
              case measure => simp
            · have htt' : t2 ≤ t1 := by omega
              have hga : goA (y1, f1, t1) (y1, f2, t2) = false := by simp [goA, htt]
              have HG := Lib.hid hga
              clear hga
              go_wp2_with fail
              go_roundw
              case rel => exact ⟨(y1, f1, t1) :: al, bl, vs3, _, hra4, Runs.rest hrb4, hT4, hfa4, hfb4.rest, VB.out, by rw [← HRn.out, bothF_stepB HG.out, HM.out], fun i => by have := HFl.out i; have := addF_len W H y1 mf mt fc i; simp only [List.length_cons] at *; omega, d0, d1, d2, d3, hBl4, hbt4⟩
              case measure => simp
          · have hyy' : (y1 == y2) = false := by simpa using hyy
            have hmeet : meet W H (y1, f1, t1) (y2, f2, t2) fc = fc := by simp [meet, hyy]
            have HM := Lib.hid hmeet
            clear hmeet
            by_cases hlt : y1 < y2
            · have hga : goA (y1, f1, t1) (y2, f2, t2) = true := by simp [goA, hlt]
              have HG := Lib.hid hga
              clear hga
              go_wp2_with fail
              go_roundw
              case rel => exact ⟨al, (y2, f2, t2) :: bl, vs2, _, Runs.rest hra3, hrb3, hT3, hfa3.rest, hfb3, HVB.out, by rw [← HRn.out, bothF_stepA HG.out, HM.out], fun i => by have := HFl.out i; simp only [List.length_cons] at this ⊢; omega, d0, d1, d2, d3, hBl3, hbt3⟩
              case measure => simp
            · have hga : goA (y1, f1, t1) (y2, f2, t2) = false := by simp [goA, hlt, hyy]
              have HG := Lib.hid hga
              clear hga
              have hlt' : y2 ≤ y1 := by omega
              go_wp2_with fail
              go_roundw
              case rel => exact ⟨(y1, f1, t1) :: al, bl, vs2, _, hra3, Runs.rest hrb3, hT3, hfa3, hfb3.rest, HVB.out, by rw [← HRn.out, bothF_stepB HG.out, HM.out], fun i => by have := HFl.out i; simp only [List.length_cons] at this ⊢; omega, d0, d1, d2, d3, hBl3, hbt3⟩
              case measure => simp
end Go.Proofs.Ytnbdnnbeiohmgaa
/- grid.Without; grid.Sea. -/
namespace Go.Proofs.Ytnbdnnbeiohmgaa
open Go.RowKit Go.Shelf Go.Lib

theorem meet_mem {W H : Int} {x y : R3} {f : Nat → List S2} {i : Nat} {s : S2} (h : s ∈ meet W H x y f i) : s ∈ f i ∨ ((i : Int) < H ∧ 0 ≤ s.1 ∧ s.1 < s.2 ∧ s.2 ≤ W) := by
  unfold meet at h
  split at h
  · exact addF_mem h
  · exact .inl h
theorem bothF_mem {W H : Int} : ∀ (n : Nat) (a b : List R3) (f : Nat → List S2) (i : Nat) (s : S2), s ∈ bothF W H n a b f i → s ∈ f i ∨ ((i : Int) < H ∧ 0 ≤ s.1 ∧ s.1 < s.2 ∧ s.2 ≤ W) := by
  intro n
  induction n with
  | zero => intro a b f i s h; exact .inl h
  | succ n ih =>
    intro a b f i s h
    match a, b with
    | [], b => rw [bothF_nilA] at h; exact .inl h
    | x :: a, [] => rw [bothF_nilB] at h; exact .inl h
    | x :: a, y :: b =>
      rw [bothF] at h
      split at h
      · rcases ih _ _ _ _ _ h with h | h
        · exact meet_mem h
        · exact .inr h
      · rcases ih _ _ _ _ _ h with h | h
        · exact meet_mem h
        · exact .inr h
theorem bothF_len {W H : Int} : ∀ (n : Nat) (a b : List R3) (f : Nat → List S2) (i : Nat), (bothF W H n a b f i).length ≤ (f i).length + n := by
  intro n
  induction n with
  | zero => intro a b f i; exact Nat.le_refl _
  | succ n ih =>
    intro a b f i
    match a, b with
    | [], b => rw [bothF_nilA]; omega
    | x :: a, [] => rw [bothF_nilB]; omega
    | x :: a, y :: b =>
      have hm := meet_len W H x y f i
      rw [bothF]
      split
      · have := ih a (y :: b) (meet W H x y f) i; omega
      · have := ih (x :: a) b (meet W H x y f) i; omega

set_option maxRecDepth 100000 in
set_option maxHeartbeats 16000000 in
theorem without_gr (W H S : Int) (vL va vb : Value) (ld a b : List R3) (w : World) (hLd : Runs w vL ld) (ha : Runs w va a) (hb : Runs w vb b) (hok : checkRs W H S ld [a, b] = true) :
    Calls Try.prog 24 #[.agg #[.int .i64 W, .int .i64 H, .int .i64 S, vL], va, vb] w fun e w' =>
      (∃ R, RegOf (bothF W H (a.length + (othF W b H.toNat).1.length) a (othF W b H.toNat).1 fun _ => []) R ∧ ∃ v, e = .returned (.tuple #[v, .int .i64 (if R.length ≤ 8192 then 0 else 3)]) ∧ Runs w' v (if R.length ≤ 8192 then R else [])) ∧ Below w.heap.size w w' := by
  have hok' := hok
  simp only [checkRs, List.all_cons, List.all_nil, Bool.and_true, Bool.and_eq_true] at hok'
  obtain ⟨hW, hH, hS, -⟩ := checkG_iff hok'.1
  have hla : a.length ≤ 8192 := by have := hok'.2.1; simp only [rightB, Bool.and_eq_true, decide_eq_true_eq] at this; exact this.2
  have hlb : b.length ≤ 8192 := by have := hok'.2.2; simp only [rightB, Bool.and_eq_true, decide_eq_true_eq] at this; exact this.2
  have hlo := othF_len W b H.toNat
  clear hok'
  have hfarA : ∀ g, va.ownBlock = some g → 0 < a.length → g < w.heap.size := fun g hg h0 => by
    obtain ⟨A, c, rfl, -, -, h3⟩ := ha
    obtain ⟨b', off, rfl, hbl, -⟩ := h3 h0
    simp [Value.ownBlock] at hg
    omega
  have HA := Lib.hid ha
  have HB := Lib.hid hb
  have HLd := Lib.hid hLd
  obtain ⟨Aa, ca, ea, -⟩ := ha
  obtain ⟨Ab, cb, eb, -⟩ := hb
  clear hLd
  go_enter Try.func24, Try.ntmps24
  go_wp2_with fail
  have b1 : Below w.heap.size w (w.alloc (.cells #[.int .i64 W, .int .i64 H, .int .i64 S, vL] 24)) := (Below.refl w.heap.size w).alloc (Nat.le_refl _) _
  have c0 : (w.alloc (.cells #[.int .i64 W, .int .i64 H, .int .i64 S, vL] 24)).cell? ⟨w.heap.size, 0, none⟩ = some (.int .i64 W) := by simp [go_sem]
  have c1 : (w.alloc (.cells #[.int .i64 W, .int .i64 H, .int .i64 S, vL] 24)).cell? ⟨w.heap.size, 1, none⟩ = some (.int .i64 H) := by simp [go_sem]
  have c2 : (w.alloc (.cells #[.int .i64 W, .int .i64 H, .int .i64 S, vL] 24)).cell? ⟨w.heap.size, 2, none⟩ = some (.int .i64 S) := by simp [go_sem]
  have c3 : (w.alloc (.cells #[.int .i64 W, .int .i64 H, .int .i64 S, vL] 24)).cell? ⟨w.heap.size, 3, none⟩ = some vL := by simp [go_sem]
  have hz1 : w.heap.size + 1 = (w.alloc (.cells #[.int .i64 W, .int .i64 H, .int .i64 S, vL] 24)).heap.size := by simp
  obtain ⟨w1, hw1⟩ : ∃ w1, (w.alloc (.cells #[.int .i64 W, .int .i64 H, .int .i64 S, vL] 24)) = w1 := ⟨_, rfl⟩
  rw [hw1] at b1 c0 c1 c2 c3 hz1 ⊢
  clear hw1
  have b1' := b1.alloc (by omega) (.cells #[.slice Aa a.length ca, .slice Ab b.length cb] 22)
  have hchk := checked_gr W H S vL (.slice (some ⟨w1.heap.size, 0, none⟩) 2 2) ld [.slice Aa a.length ca, .slice Ab b.length cb] [a, b] (w1.alloc (.cells #[.slice Aa a.length ca, .slice Ab b.length cb] 22)) (HLd.out.below b1') (Lst_lit (enc := enc1) (k := 1) (fun _ => rfl) w1 w1.heap.size 2 rfl #[.slice Aa a.length ca, .slice Ab b.length cb] [.slice Aa a.length ca, .slice Ab b.length cb] 22 rfl rfl (by unfold maxLen; omega)) rfl (fun i u x hu hx => by
    match i, hu, hx with
    | 0, hu, hx => simp at hu hx; subst hu hx; have := HA.out.below b1'; rw [ea] at this; exact this
    | 1, hu, hx => simp at hu hx; subst hu hx; have := HB.out.below b1'; rw [eb] at this; exact this
    | i + 2, hu, hx => simp at hu)
  rw [hok, argE_true] at hchk
  have w1b : Below w1.heap.size w1 (w1.alloc (.cells #[.slice Aa a.length ca, .slice Ab b.length cb] 22)) := (Below.refl _ _).alloc (Nat.le_refl _) _
  rw [hz1]
  refine hchk.mono ?_
  rintro e w2 ⟨rfl, hb2⟩
  have b12 := w1b.trans (hb2.mono w1b.size)
  obtain ⟨B, hB⟩ : ∃ B, w.heap.size = B := ⟨_, rfl⟩
  rw [hB] at b1 c0 c1 c2 c3 hz1 hfarA ⊢
  have c0 := (b12.cell (p := ⟨B, 0, none⟩) (by show B < w1.heap.size; omega)).trans c0
  have c1 := (b12.cell (p := ⟨B, 1, none⟩) (by show B < w1.heap.size; omega)).trans c1
  have c2 := (b12.cell (p := ⟨B, 2, none⟩) (by show B < w1.heap.size; omega)).trans c2
  have c3 := (b12.cell (p := ⟨B, 3, none⟩) (by show B < w1.heap.size; omega)).trans c3
  have b2 := b1.trans (b12.mono (by omega))
  have hz2 := b12.size
  clear hchk w1b hb2 b12 b1 b1'
  clear ea eb
  go_wp2_with fail
  have T0 := Tab.new w2 w2.heap.size rfl
  have b3 := b2.alloc (by omega) (.cells Try.zeroCells100 100)
  have c0 := (World.cell?_alloc_lt w2 (.cells Try.zeroCells100 100) ⟨B, 0, none⟩ (by show B < w2.heap.size; omega)).trans c0
  have c1 := (World.cell?_alloc_lt w2 (.cells Try.zeroCells100 100) ⟨B, 1, none⟩ (by show B < w2.heap.size; omega)).trans c1
  have c2 := (World.cell?_alloc_lt w2 (.cells Try.zeroCells100 100) ⟨B, 2, none⟩ (by show B < w2.heap.size; omega)).trans c2
  have c3 := (World.cell?_alloc_lt w2 (.cells Try.zeroCells100 100) ⟨B, 3, none⟩ (by show B < w2.heap.size; omega)).trans c3
  obtain ⟨T, hT⟩ : ∃ T, w2.heap.size = T := ⟨_, rfl⟩
  obtain ⟨w3, hw3⟩ : ∃ w3, w2.alloc (.cells Try.zeroCells100 100) = w3 := ⟨_, rfl⟩
  have hz3 : w3.heap.size = T + 1 := by rw [← hw3, ← hT]; simp
  rw [hw3, hT] at T0
  rw [hw3] at b3 c0 c1 c2 c3 ⊢
  rw [hT]
  clear hw3 b2
  have hB3 : B < w3.heap.size := by omega
  have HO := Lib.hid (others_gr W H S vL vb b w3.drew hW hH (HB.out.below (by rw [hB]; exact belowDrew b3)) (by omega))
  have hBT : B < T := by omega
  have hT3 : T < w3.heap.size := by omega
  have hfA : ∀ g, va.ownBlock = some g → 0 < a.length → g < T := fun g hg h0 => Nat.lt_trans (hfarA g hg h0) hBT
  have hfA3 : ∀ g, va.ownBlock = some g → 0 < a.length → g < w3.heap.size := fun g hg h0 => Nat.lt_trans (hfA g hg h0) hT3
  have hnil : ∀ (g : Nat) (i : Nat), i < 256 → ((fun _ => .slice none 0 0 : Nat → Value) i).ownBlock ≠ some g := fun g i _ hh => by simp [Value.ownBlock] at hh
  have hcnt : ∀ i : Nat, ((fun _ => [] : Nat → List S2) i).length + (a.length + (othF W b H.toNat).1.length) ≤ 1000000 := fun i => by simp only [List.length_nil]; omega
  have hbAll : ∀ w4, Below w3.heap.size w3 w4 → Below w.heap.size w w4 := fun w4 hb4 => by rw [hB]; exact b3.trans (hb4.mono (by omega))
  go_region_held3 (fun W' => W'.cell? ⟨B, 0, none⟩ = some (.int .i64 W) ∧ W'.cell? ⟨B, 1, none⟩ = some (.int .i64 H) ∧ W'.cell? ⟨B, 2, none⟩ = some (.int .i64 S) ∧ W'.cell? ⟨B, 3, none⟩ = some vL)
    (first | exact ⟨c0, c1, c2, c3⟩ | exact ⟨d0, d1, d2, d3⟩ | exact ⟨g0, g1, g2, g3⟩)
    (first | (go_at_call 68; (with_reducible refine HO.out.mono ?_); rintro e w4 ⟨⟨u, rfl, hu, hub⟩, hb4⟩; have d0 := (hb4.cell (p := ⟨B, 0, none⟩) hB3).trans c0; have d1 := (hb4.cell (p := ⟨B, 1, none⟩) hB3).trans c1; have d2 := (hb4.cell (p := ⟨B, 2, none⟩) hB3).trans c2; have d3 := (hb4.cell (p := ⟨B, 3, none⟩) hB3).trans c3; have hb4' : Below w3.heap.size w3 w4 := ⟨hb4.os, hb4.tape, hb4.output, hb4.size, hb4.block⟩; have T4 := T0.below hb4'; have ha4 := HA.out.below (hbAll w4 hb4'); have hz4 : w3.heap.size ≤ w4.heap.size := hb4.size; have hub' : ∀ g, u.ownBlock = some g → w3.heap.size ≤ g ∧ g < w4.heap.size := hub; have HBo := Lib.hid (both_gr W H S vL va u a (othF W b H.toNat).1 T _ _ w4 hW hH T4 ha4 hu (fun g hg h0 => ⟨Nat.ne_of_lt (hfA g hg h0), Nat.lt_of_lt_of_le (hfA3 g hg h0) hz4, hnil g⟩) (fun g hg h0 => ⟨Nat.ne_of_gt (Nat.lt_of_lt_of_le hT3 (hub' g hg).1), (hub' g hg).2, hnil g⟩) hcnt); skip) | (go_at_call 67; (with_reducible refine HBo.out.mono ?_); rintro e w5 ⟨rfl, ⟨vs5, T5⟩, hb5⟩; have g0 := (hb5.cell (p := ⟨B, 0, none⟩) hBT).trans d0; have g1 := (hb5.cell (p := ⟨B, 1, none⟩) hBT).trans d1; have g2 := (hb5.cell (p := ⟨B, 2, none⟩) hBT).trans d2; have g3 := (hb5.cell (p := ⟨B, 3, none⟩) hBT).trans d3; skip))
  rename_i hHeld
  clear hHeld
  obtain ⟨fE, hfE⟩ : ∃ q, bothF W H (a.length + (othF W b H.toNat).1.length) a (othF W b H.toNat).1 (fun _ => []) = q := ⟨_, rfl⟩
  have hmem : ∀ i, i < 256 → ∀ s, s ∈ fE i → 0 ≤ s.1 ∧ s.1 ≤ 256 := fun i _ s hs => by
    rw [← hfE] at hs
    rcases bothF_mem _ _ _ _ _ _ hs with h | h
    · simp at h
    · omega
  have hflen : ∀ i, i < 256 → (fE i).length ≤ 1000000 := fun i _ => by
    rw [← hfE]
    have := bothF_len (W := W) (H := H) (a.length + (othF W b H.toNat).1.length) a (othF W b H.toNat).1 (fun _ => []) i
    simp only [List.length_nil] at this
    omega
  rw [hfE] at T5
  have hreg := region_gr T vs5 fE w5 T5 hflen hmem
  have HRg := Lib.hid hreg
  have HE := Lib.hid hfE
  have hbw := b3.trans (hb4'.mono (by omega))
  have hbw5 := hbw.trans (hb5.mono (by omega))
  clear hreg T5 hflen hmem hfE
  go_wp2_with fail
  refine HRg.out.mono ?_
  rintro e w7 ⟨⟨R, hR, v', rfl, hv'⟩, hb7⟩
  have HR := Lib.hid hR
  have HV := Lib.hid hv'
  have HB8 := Lib.hid (hbw5.trans (hb7.mono (by omega)))
  clear hR hv' hb7 hbw5 hbw
  obtain ⟨E, hE⟩ : ∃ E : Int, (if R.length ≤ 8192 then 0 else 3) = E := ⟨_, rfl⟩
  rw [hE]
  go_wp2_with fail
  refine bodyPost_ret (v := .tuple #[v', .int .i64 E]) (by simp [results, Try.results24, go_sem]) rfl ⟨⟨R, by rw [HE.out]; exact HR.out, v', by rw [hE], HV.out⟩, ?_⟩
  rw [hB]
  exact HB8.out

set_option maxRecDepth 100000 in
set_option maxHeartbeats 4000000 in
/-- the sea of the chapter's grid -/
theorem sea_little (vL : Value) (w : World) (h : Runs w vL [(0, 0, 2)]) :
    Calls Try.prog 50 #[.agg #[.int .i64 4, .int .i64 3, .int .i64 10, vL]] w fun e w' => (∃ v, e = .returned (.tuple #[v, .int .i64 0]) ∧ Runs w' v [(0, 2, 4), (1, 0, 4), (2, 0, 4)]) ∧ Below w.heap.size w w' := by
  have hck : checkG 4 3 10 [(0, 0, 2)] = true := by decide +kernel
  have b1 : Below w.heap.size w (w.alloc (.cells #[.int .i64 4, .int .i64 3, .int .i64 10, vL] 24)) := (Below.refl w.heap.size w).alloc (Nat.le_refl _) _
  have HA := Lib.hid (all_gr 4 3 10 vL [(0, 0, 2)] _ (h.below b1) hck)
  have HL := Lib.hid h
  clear h
  go_enter Try.func50, Try.ntmps50
  go_wp2_with fail
  refine HA.out.mono ?_
  rintro e w1 ⟨⟨R, hR, v, rfl, hv⟩, hb1⟩
  have b2 := b1.trans (hb1.mono (by simp))
  have c0 := hb1.cell (p := ⟨w.heap.size, 0, none⟩) (by simp)
  have c1 := hb1.cell (p := ⟨w.heap.size, 1, none⟩) (by simp)
  have c2 := hb1.cell (p := ⟨w.heap.size, 2, none⟩) (by simp)
  have c3 := hb1.cell (p := ⟨w.heap.size, 3, none⟩) (by simp)
  simp [go_sem] at c0 c1 c2 c3
  have hRe : R = [(0, 0, 4), (1, 0, 4), (2, 0, 4)] := by
    rw [hR.single (fun y _ => fillF_len _ _ _ y)]
    decide +kernel
  subst hRe
  have HW := Lib.hid (without_gr 4 3 10 vL v vL [(0, 0, 2)] [(0, 0, 4), (1, 0, 4), (2, 0, 4)] [(0, 0, 2)] w1 (HL.out.below b2) hv (HL.out.below b2) (by decide +kernel))
  clear hR hv hb1 b1 HA
  go_wp2_with fail
  refine HW.out.mono ?_
  rintro e w2 ⟨⟨R, hR, v2, rfl, hv2⟩, hb2⟩
  have hRe : R = [(0, 2, 4), (1, 0, 4), (2, 0, 4)] := by
    refine (hR.single (fun y hy => ?_)).trans ?_
    · have : (List.range 256).all (fun y => decide ((bothF 4 3 ([(0, 0, 4), (1, 0, 4), (2, 0, 4)].length + (othF 4 [(0, 0, 2)] (3 : Int).toNat).1.length) [(0, 0, 4), (1, 0, 4), (2, 0, 4)] (othF 4 [(0, 0, 2)] (3 : Int).toNat).1 (fun _ => []) y).length ≤ 1)) = true := by decide +kernel
      exact of_decide_eq_true (List.all_eq_true.1 this y (List.mem_range.2 hy))
    · decide +kernel
  subst hRe
  have HV := Lib.hid hv2
  have hb3 := b2.trans (hb2.mono (by have := b2.size; omega))
  clear hR hv2 HW
  simp only [List.length_cons, List.length_nil] at HV ⊢
  go_wp2_with fail
  refine bodyPost_ret (v := .tuple #[v2, .int .i64 0]) (by simp [results, Try.results50, go_sem]) rfl ⟨⟨v2, rfl, ?_⟩, hb3⟩
  simpa using HV.out
end Go.Proofs.Ytnbdnnbeiohmgaa
/- grid.Grow. -/
namespace Go.Proofs.Ytnbdnnbeiohmgaa
open Go.RowKit Go.Shelf

def leadOf (S a b c d : Int) : Lead := { we := a / S, ea := (S - 1 + c) / S, so := b / S, no := (S - 1 + d) / S }
theorem pushB_iff {a b c d : Int} (h : pushB a b c d = true) : (-16777216 ≤ a ∧ a ≤ c) ∧ (-16777216 ≤ b ∧ b ≤ d) ∧ c ≤ 16777216 ∧ d ≤ 16777216 := by
  simp only [pushB, inB, Bool.and_eq_true, decide_eq_true_eq] at h
  omega
theorem div_in {n S : Int} (hS : 1 ≤ S) (hn : -33554432 ≤ n ∧ n ≤ 33554432) : -33554432 ≤ n / S ∧ n / S ≤ 33554432 := by
  constructor
  · exact (Int.le_ediv_iff_mul_le (by omega)).2 (by omega)
  · rcases Int.lt_or_le n 0 with h | h
    · have : n / S < 0 := Int.ediv_neg_of_neg_of_pos h (by omega)
      omega
    · have := Int.ediv_le_self S h
      omega

/-- the runs of a valid region lie in its rows -/
theorem right_rows {W H : Int} : ∀ {l : List R3} {p : R3}, rightL W H p l = true → ∀ r, r ∈ l → 0 ≤ r.1 ∧ r.1 ≤ H - 1 ∧ 0 ≤ r.2.1 ∧ r.2.1 ≤ wrap64 (r.2.2 - 1) ∧ r.2.2 ≤ W
  | [], _, _, r, hr => by simp at hr
  | x :: l, p, h, r, hr => by
    simp only [rightL, Bool.and_eq_true] at h
    rcases List.mem_cons.1 hr with e | e
    · subst e
      have h1 := h.1
      simp only [okR, inB, Bool.and_eq_true, decide_eq_true_eq] at h1
      omega
    · exact right_rows h.2 r e

set_option maxRecDepth 100000 in
set_option maxHeartbeats 16000000 in
/-- the loop of Grow over the runs, and what follows -/
theorem grow_gr (W H S a b c d : Int) (vL v : Value) (ld l : List R3) (w : World) (hLd : Runs w vL ld) (hl : Runs w v l) (hok : checkRs W H S ld [l] = true) (hp : pushB a b c d = true) :
    Calls Try.prog 11 #[.agg #[.int .i64 W, .int .i64 H, .int .i64 S, vL], v, .agg #[.int .i64 a, .int .i64 b, .int .i64 c, .int .i64 d]] w fun e w' =>
      (∃ R, RegOf (growF W H (leadOf S a b c d) l) R ∧ ∃ v', e = .returned (.tuple #[v', .bool (if R.length ≤ 8192 then offL W H (leadOf S a b c d) l else false), .int .i64 (if R.length ≤ 8192 then 0 else 3)]) ∧ Runs w' v' (if R.length ≤ 8192 then R else [])) ∧ Below w.heap.size w w' := by
  have hok' := hok
  simp only [checkRs, List.all_cons, List.all_nil, Bool.and_true, Bool.and_eq_true] at hok'
  obtain ⟨hW, hH, hS, -⟩ := checkG_iff hok'.1
  have hrB := hok'.2
  simp only [rightB, Bool.and_eq_true, decide_eq_true_eq] at hrB
  have hrows := Lib.hid (right_rows hrB.1)
  have hlen := hrB.2
  clear hok' hrB
  obtain ⟨pa, pb, pc, pd⟩ := pushB_iff hp
  obtain ⟨n, hn⟩ : ∃ n, l.length = n := ⟨_, rfl⟩
  rw [hn] at hlen
  obtain ⟨A, cap, rfl, -, hcap, -⟩ := (show Runs w v l from hl)
  unfold maxLen at hcap
  have HL := Lib.hid hl
  have HLd := Lib.hid hLd
  clear hl hLd
  rw [hn] at HL ⊢
  go_enter Try.func11, Try.ntmps11
  go_wp2_with fail
  have b1 : Below w.heap.size w ((w.alloc (.cells #[.int .i64 W, .int .i64 H, .int .i64 S, vL] 24)).alloc (.cells #[.int .i64 a, .int .i64 b, .int .i64 c, .int .i64 d] 28)) := ((Below.refl w.heap.size w).alloc (Nat.le_refl _) _).alloc (by simp) _
  have c0 : ((w.alloc (.cells #[.int .i64 W, .int .i64 H, .int .i64 S, vL] 24)).alloc (.cells #[.int .i64 a, .int .i64 b, .int .i64 c, .int .i64 d] 28)).cell? ⟨w.heap.size, 0, none⟩ = some (.int .i64 W) := by simp [go_sem]
  have c1 : ((w.alloc (.cells #[.int .i64 W, .int .i64 H, .int .i64 S, vL] 24)).alloc (.cells #[.int .i64 a, .int .i64 b, .int .i64 c, .int .i64 d] 28)).cell? ⟨w.heap.size, 1, none⟩ = some (.int .i64 H) := by simp [go_sem]
  have c2 : ((w.alloc (.cells #[.int .i64 W, .int .i64 H, .int .i64 S, vL] 24)).alloc (.cells #[.int .i64 a, .int .i64 b, .int .i64 c, .int .i64 d] 28)).cell? ⟨w.heap.size, 2, none⟩ = some (.int .i64 S) := by simp [go_sem]
  have c3 : ((w.alloc (.cells #[.int .i64 W, .int .i64 H, .int .i64 S, vL] 24)).alloc (.cells #[.int .i64 a, .int .i64 b, .int .i64 c, .int .i64 d] 28)).cell? ⟨w.heap.size, 3, none⟩ = some vL := by simp [go_sem]
  have p0 : ((w.alloc (.cells #[.int .i64 W, .int .i64 H, .int .i64 S, vL] 24)).alloc (.cells #[.int .i64 a, .int .i64 b, .int .i64 c, .int .i64 d] 28)).cell? ⟨w.heap.size + 1, 0, none⟩ = some (.int .i64 a) := by simp [go_sem]
  have p1 : ((w.alloc (.cells #[.int .i64 W, .int .i64 H, .int .i64 S, vL] 24)).alloc (.cells #[.int .i64 a, .int .i64 b, .int .i64 c, .int .i64 d] 28)).cell? ⟨w.heap.size + 1, 1, none⟩ = some (.int .i64 b) := by simp [go_sem]
  have p2 : ((w.alloc (.cells #[.int .i64 W, .int .i64 H, .int .i64 S, vL] 24)).alloc (.cells #[.int .i64 a, .int .i64 b, .int .i64 c, .int .i64 d] 28)).cell? ⟨w.heap.size + 1, 2, none⟩ = some (.int .i64 c) := by simp [go_sem]
  have p3 : ((w.alloc (.cells #[.int .i64 W, .int .i64 H, .int .i64 S, vL] 24)).alloc (.cells #[.int .i64 a, .int .i64 b, .int .i64 c, .int .i64 d] 28)).cell? ⟨w.heap.size + 1, 3, none⟩ = some (.int .i64 d) := by simp [go_sem]
  have hz1 : w.heap.size + 1 + 1 = ((w.alloc (.cells #[.int .i64 W, .int .i64 H, .int .i64 S, vL] 24)).alloc (.cells #[.int .i64 a, .int .i64 b, .int .i64 c, .int .i64 d] 28)).heap.size := by simp
  obtain ⟨w1, hw1⟩ : ∃ w1, ((w.alloc (.cells #[.int .i64 W, .int .i64 H, .int .i64 S, vL] 24)).alloc (.cells #[.int .i64 a, .int .i64 b, .int .i64 c, .int .i64 d] 28)) = w1 := ⟨_, rfl⟩
  rw [hw1] at b1 c0 c1 c2 c3 p0 p1 p2 p3 hz1 ⊢
  clear hw1
  have b1' := b1.alloc (by omega) (.cells #[.slice A n cap] 22)
  have hchk := checked_gr W H S vL (.slice (some ⟨w1.heap.size, 0, none⟩) 1 1) ld [.slice A n cap] [l] (w1.alloc (.cells #[.slice A n cap] 22)) (HLd.out.below b1') (Lst_lit (enc := enc1) (k := 1) (fun _ => rfl) w1 w1.heap.size 1 rfl #[.slice A n cap] [.slice A n cap] 22 rfl rfl (by unfold maxLen; omega)) rfl (fun i u x hu hx => by
    match i, hu, hx with
    | 0, hu, hx => simp at hu hx; subst hu hx; exact HL.out.below b1'
    | i + 1, hu, hx => simp at hu)
  rw [hok, argE_true] at hchk
  have w1b : Below w1.heap.size w1 (w1.alloc (.cells #[.slice A n cap] 22)) := (Below.refl _ _).alloc (Nat.le_refl _) _
  rw [hz1]
  refine hchk.mono ?_
  rintro e w2 ⟨rfl, hb2⟩
  have b12 := w1b.trans (hb2.mono w1b.size)
  obtain ⟨B, hB⟩ : ∃ B, w.heap.size = B := ⟨_, rfl⟩
  rw [hB] at b1 c0 c1 c2 c3 p0 p1 p2 p3 hz1 ⊢
  have c0 := (b12.cell (p := ⟨B, 0, none⟩) (by show B < w1.heap.size; omega)).trans c0
  have c1 := (b12.cell (p := ⟨B, 1, none⟩) (by show B < w1.heap.size; omega)).trans c1
  have c2 := (b12.cell (p := ⟨B, 2, none⟩) (by show B < w1.heap.size; omega)).trans c2
  have c3 := (b12.cell (p := ⟨B, 3, none⟩) (by show B < w1.heap.size; omega)).trans c3
  have p0 := (b12.cell (p := ⟨B + 1, 0, none⟩) (by show B + 1 < w1.heap.size; omega)).trans p0
  have p1 := (b12.cell (p := ⟨B + 1, 1, none⟩) (by show B + 1 < w1.heap.size; omega)).trans p1
  have p2 := (b12.cell (p := ⟨B + 1, 2, none⟩) (by show B + 1 < w1.heap.size; omega)).trans p2
  have p3 := (b12.cell (p := ⟨B + 1, 3, none⟩) (by show B + 1 < w1.heap.size; omega)).trans p3
  have b2 := b1.trans (b12.mono (by omega))
  have hz2 := b12.size
  clear hchk w1b hb2 b12 b1 b1'
  go_wp2_with fail
  refine (pushed_gr a b c d _).mono ?_
  rintro e w3 ⟨rfl, hb3⟩
  rw [hp]
  have c0 := (hb3.cell (p := ⟨B, 0, none⟩) (by show B < w2.heap.size; omega)).trans c0
  have c1 := (hb3.cell (p := ⟨B, 1, none⟩) (by show B < w2.heap.size; omega)).trans c1
  have c2 := (hb3.cell (p := ⟨B, 2, none⟩) (by show B < w2.heap.size; omega)).trans c2
  have c3 := (hb3.cell (p := ⟨B, 3, none⟩) (by show B < w2.heap.size; omega)).trans c3
  have p0 := (hb3.cell (p := ⟨B + 1, 0, none⟩) (by show B + 1 < w2.heap.size; omega)).trans p0
  have p1 := (hb3.cell (p := ⟨B + 1, 1, none⟩) (by show B + 1 < w2.heap.size; omega)).trans p1
  have p2 := (hb3.cell (p := ⟨B + 1, 2, none⟩) (by show B + 1 < w2.heap.size; omega)).trans p2
  have p3 := (hb3.cell (p := ⟨B + 1, 3, none⟩) (by show B + 1 < w2.heap.size; omega)).trans p3
  have b3 := b2.trans (hb3.mono (by omega))
  have hz3 := hb3.size
  clear hb3 b2
  go_wp2_with fail
  refine (leads_gr W H S a c vL _ hS (by omega) (by omega)).mono ?_
  rintro e w4 ⟨rfl, hb4⟩
  have c0 := (hb4.cell (p := ⟨B, 0, none⟩) (by show B < w3.heap.size; omega)).trans c0
  have c1 := (hb4.cell (p := ⟨B, 1, none⟩) (by show B < w3.heap.size; omega)).trans c1
  have c2 := (hb4.cell (p := ⟨B, 2, none⟩) (by show B < w3.heap.size; omega)).trans c2
  have c3 := (hb4.cell (p := ⟨B, 3, none⟩) (by show B < w3.heap.size; omega)).trans c3
  have p0 := (hb4.cell (p := ⟨B + 1, 0, none⟩) (by show B + 1 < w3.heap.size; omega)).trans p0
  have p1 := (hb4.cell (p := ⟨B + 1, 1, none⟩) (by show B + 1 < w3.heap.size; omega)).trans p1
  have p2 := (hb4.cell (p := ⟨B + 1, 2, none⟩) (by show B + 1 < w3.heap.size; omega)).trans p2
  have p3 := (hb4.cell (p := ⟨B + 1, 3, none⟩) (by show B + 1 < w3.heap.size; omega)).trans p3
  have b4 := b3.trans (hb4.mono (by omega))
  have hz4 := hb4.size
  clear hb4 b3
  go_wp2_with fail
  refine (leads_gr W H S b d vL _ hS (by omega) (by omega)).mono ?_
  rintro e w5 ⟨rfl, hb5⟩
  have c0 := (hb5.cell (p := ⟨B, 0, none⟩) (by show B < w4.heap.size; omega)).trans c0
  have c1 := (hb5.cell (p := ⟨B, 1, none⟩) (by show B < w4.heap.size; omega)).trans c1
  have c2 := (hb5.cell (p := ⟨B, 2, none⟩) (by show B < w4.heap.size; omega)).trans c2
  have c3 := (hb5.cell (p := ⟨B, 3, none⟩) (by show B < w4.heap.size; omega)).trans c3
  have b5 := b4.trans (hb5.mono (by omega))
  have hz5 := hb5.size
  have l1 := div_in (n := a) hS.1 (by omega)
  have l2 := div_in (n := S - 1 + c) hS.1 (by omega)
  have l3 := div_in (n := b) hS.1 (by omega)
  have l4 := div_in (n := S - 1 + d) hS.1 (by omega)
  obtain ⟨L, hLd⟩ : ∃ L, leadOf S a b c d = L := ⟨_, rfl⟩
  have e1 : a / S = L.we := by rw [← hLd]; rfl
  have e2 : (S - 1 + c) / S = L.ea := by rw [← hLd]; rfl
  have e3 : b / S = L.so := by rw [← hLd]; rfl
  have e4 : (S - 1 + d) / S = L.no := by rw [← hLd]; rfl
  rw [e1] at l1
  rw [e2] at l2
  rw [e3] at l3
  rw [e4] at l4
  rw [e1, e2, e3, e4]
  clear e1 e2 e3 e4 hb5 b4 p0 p1 p2 p3
  go_wp2_with fail
  obtain ⟨T, hT⟩ : ∃ T, w5.heap.size = T := ⟨_, rfl⟩
  have T0 := Tab.new w5 T hT
  have b6 := b5.alloc (by omega) (.cells Try.zeroCells100 100)
  have c0 := (World.cell?_alloc_lt w5 (.cells Try.zeroCells100 100) ⟨B, 0, none⟩ (by show B < w5.heap.size; omega)).trans c0
  have c1 := (World.cell?_alloc_lt w5 (.cells Try.zeroCells100 100) ⟨B, 1, none⟩ (by show B < w5.heap.size; omega)).trans c1
  have c2 := (World.cell?_alloc_lt w5 (.cells Try.zeroCells100 100) ⟨B, 2, none⟩ (by show B < w5.heap.size; omega)).trans c2
  have c3 := (World.cell?_alloc_lt w5 (.cells Try.zeroCells100 100) ⟨B, 3, none⟩ (by show B < w5.heap.size; omega)).trans c3
  rw [hT]
  obtain ⟨w6, hw6⟩ : ∃ w6, w5.alloc (.cells Try.zeroCells100 100) = w6 := ⟨_, rfl⟩
  rw [hw6] at T0 b6 c0 c1 c2 c3 ⊢
  have hBT : B < T := by omega
  clear hw6 b5 hz1 hz2 hz3 hz4 hz5 hT
  have T0' : Tab w6 T (fun _ => .slice none 0 0) (growF W H L (l.take 0)) := T0
  have hLw := Lib.hid hLd
  clear T0 hLd
  go_loopw [7, 53] (fun off i wr => ∃ k : Nat, k ≤ n ∧ i = .int .i64 k ∧ off = .bool (offL W H L (l.take k)) ∧ (∃ vs, Tab wr T vs (growF W H L (l.take k))) ∧ wr.cell? ⟨B, 0, none⟩ = some (.int .i64 W) ∧ wr.cell? ⟨B, 1, none⟩ = some (.int .i64 H) ∧ wr.cell? ⟨B, 2, none⟩ = some (.int .i64 S) ∧ wr.cell? ⟨B, 3, none⟩ = some vL ∧ Below B w wr) (fun _ i _ => n - (intOf i).toNat)
  case atStart => exact ⟨0, Nat.zero_le _, rfl, rfl, ⟨_, T0'⟩, c0, c1, c2, c3, by rw [← hB]; rw [← hB] at b6; exact b6⟩
  case round =>
    obtain ⟨k, hk, rfl, rfl, ⟨vs, hT⟩, d0, d1, d2, d3, hb⟩ := hrel
    clear c0 c1 c2 c3 T0' b6
    have hTl := hT.lt
    have hBw : B < wr.heap.size := by omega
    by_cases hlt : k < n
    · obtain ⟨⟨y, f, t⟩, hx⟩ : ∃ x, l[k]? = some x := ⟨_, List.getElem?_eq_getElem (by omega)⟩
      have hr := hrows.out (y, f, t) (List.mem_of_getElem? hx)
      obtain ⟨bb, off, rfl, m0, m1, m2, hbb⟩ : ∃ bb off, A = some ⟨bb, off, none⟩ ∧ wr.cell? ⟨bb, off + k * 3, none⟩ = some (.int .i64 y) ∧ wr.cell? ⟨bb, off + k * 3 + 1, none⟩ = some (.int .i64 f) ∧ wr.cell? ⟨bb, off + k * 3 + 2, none⟩ = some (.int .i64 t) ∧ bb < wr.heap.size := by
        have hrr := HL.out.below (by rw [hB]; exact hb)
        obtain ⟨A', c', e, -, -, h3⟩ := hrr
        simp only [Value.slice.injEq] at e
        obtain ⟨rfl, -, -⟩ := e
        obtain ⟨bb, off, rfl, hbl, hc⟩ := h3 (by omega)
        exact ⟨bb, off, rfl, hc k 0 _ _ hx rfl, hc k 1 _ _ hx rfl, hc k 2 _ _ hx rfl, hbl⟩
      have hkn : (k : Int) < n := by omega
      have hg := growF_take (W := W) (H := H) (L := L) hx
      have ho := offL_take (W := W) (H := H) (L := L) hx
      have HG := Lib.hid hg
      have HO := Lib.hid ho
      clear hg ho hx
      dsimp only at hr
      go_upto_region 9 with fail
      have hre : Below wr.heap.size wr (wr.alloc (.cells #[.int .i64 y, .int .i64 f, .int .i64 t] 72)) := (Below.refl _ _).alloc (Nat.le_refl _) _
      have hT2 := hT.below hre
      have hXv0 : ∀ i, i < 256 → (vs i).ownBlock ≠ some wr.heap.size := fun i hi e => by have := (ownBlock_lt (hT.own i hi) e).2; omega
      have hXv := Lib.hid hXv0
      clear hXv0
      have d0 := (hre.cell (p := ⟨B, 0, none⟩) hBw).trans d0
      have d1 := (hre.cell (p := ⟨B, 1, none⟩) hBw).trans d1
      have d2 := (hre.cell (p := ⟨B, 2, none⟩) hBw).trans d2
      have d3 := (hre.cell (p := ⟨B, 3, none⟩) hBw).trans d3
      have r0 : (wr.alloc (.cells #[.int .i64 y, .int .i64 f, .int .i64 t] 72)).cell? ⟨wr.heap.size, 0, none⟩ = some (.int .i64 y) := by simp [go_sem]
      have r1 : (wr.alloc (.cells #[.int .i64 y, .int .i64 f, .int .i64 t] 72)).cell? ⟨wr.heap.size, 1, none⟩ = some (.int .i64 f) := by simp [go_sem]
      have r2 : (wr.alloc (.cells #[.int .i64 y, .int .i64 f, .int .i64 t] 72)).cell? ⟨wr.heap.size, 2, none⟩ = some (.int .i64 t) := by simp [go_sem]
      have hb2 := hb.trans (hre.mono (by omega))
      have hze : wr.heap.size < (wr.alloc (.cells #[.int .i64 y, .int .i64 f, .int .i64 t] 72)).heap.size := by simp
      obtain ⟨X, hX⟩ : ∃ X, wr.heap.size = X := ⟨_, rfl⟩
      obtain ⟨we, hwe⟩ : ∃ we, wr.alloc (.cells #[.int .i64 y, .int .i64 f, .int .i64 t] 72) = we := ⟨_, rfl⟩
      rw [hwe] at hT2 d0 d1 d2 d3 r0 r1 r2 hb2 hze ⊢
      rw [hX] at r0 r1 r2 hze hTl hBw hXv ⊢
      clear hwe hre hT m0 m1 m2 hbb
      obtain ⟨o0, ho0⟩ : ∃ o, offL W H L (l.take k) = o := ⟨_, rfl⟩
      rw [ho0] at HO ⊢
      have ey1 : wrap64 (y + L.so) = y + L.so := wrapId _ (by omega) (by omega)
      have ey2 : wrap64 (y + L.no) = y + L.no := wrapId _ (by omega) (by omega)
      go_cut [7, 53] from 53 to 119 (fun o i wx => o = .bool (o0 || offR W H L (y, f, t)) ∧ i = .int .i64 k ∧ we = wx)
      case first =>
        go_wp2_with fail
        all_goals
          go_meet
          go_light
        all_goals
          refine ⟨congrArg Value.bool ?_, rfl, rfl⟩
          simp only [offR]
          simp [*]
      case rest =>
        obtain ⟨rfl, rfl, rfl⟩ := hcut
        have eH : wrap64 (H - 1) = H - 1 := wrapId _ (by omega) (by omega)
        obtain ⟨fa, hfa⟩ : ∃ q, wrap64 (f + L.we) = q := ⟨_, rfl⟩
        obtain ⟨ta, hta⟩ : ∃ q, wrap64 (t + L.ea) = q := ⟨_, rfl⟩
        obtain ⟨hi, hhi⟩ : ∃ q, min (y + L.no) (H - 1) = q := ⟨_, rfl⟩
        obtain ⟨y0, hy0⟩ : ∃ q : Nat, max 0 (y + L.so) = (q : Int) := ⟨(max 0 (y + L.so)).toNat, by omega⟩
        obtain ⟨fE, hfE⟩ : ∃ q, growF W H L (l.take (k + 1)) = q := ⟨_, rfl⟩
        have hst : addRows W H fa ta (hi + 1 - y0).toNat y0 (growF W H L (l.take k)) = fE := by
          rw [← hfE, HG.out, growOne]
          dsimp only
          rw [hfa, hta, hhi, hy0, Int.toNat_natCast]
        have hlen0 : ∀ i, (growF W H L (l.take k) i).length ≤ k := fun i => by
          have := growF_len W H L (l.take k) i
          have h2 : (l.take k).length ≤ k := by simp; omega
          omega
        have HS := Lib.hid hst
        have HN := Lib.hid hlen0
        have HE := Lib.hid hfE
        clear hst hlen0 hfE
        go_wp2_with fail
        go_loopw [16] (fun i wq => ∃ yy : Nat, i = .int .i64 yy ∧ (∃ vs fc, Tab wq T vs fc ∧ (∀ i, i < 256 → (vs i).ownBlock ≠ some X) ∧ addRows W H fa ta (hi + 1 - yy).toNat yy fc = fE ∧ ∀ i, (fc i).length ≤ k + (if yy ≤ i then 0 else 1)) ∧
            wq.cell? ⟨B, 0, none⟩ = some (.int .i64 W) ∧ wq.cell? ⟨B, 1, none⟩ = some (.int .i64 H) ∧ wq.cell? ⟨B, 2, none⟩ = some (.int .i64 S) ∧ wq.cell? ⟨B, 3, none⟩ = some vL ∧ wq.cell? ⟨X, 0, none⟩ = some (.int .i64 y) ∧ wq.cell? ⟨X, 1, none⟩ = some (.int .i64 f) ∧ wq.cell? ⟨X, 2, none⟩ = some (.int .i64 t) ∧ X < wq.heap.size ∧ Below B w wq) (fun i _ => (300 - intOf i).toNat)
        case atStart => exact ⟨y0, rfl, ⟨_, _, hT2, hXv.out, HS.out, fun i => by have := HN.out i; omega⟩, d0, d1, d2, d3, r0, r1, r2, hze, hb2⟩
        case round =>
          obtain ⟨yy, rfl, ⟨vs2, fc, hTc, hvX, hrun, hfl⟩, g0, g1, g2, g3, x0, x1, x2, hXl, hbq⟩ := hrel
          clear d0 d1 d2 d3 r0 r1 r2 hze hb2 hT2
          have hTc1 := hTc.lt
          by_cases hyh : (yy : Int) ≤ hi
          · have hadd := add_gr W H S yy fa ta vL T vs2 fc wr hW hH hTc (fun i _ => by have := hfl i; split at this <;> omega)
            have HA := Lib.hid hadd
            have HF := Lib.hid hfl
            have HV := Lib.hid hvX
            have HRn := Lib.hid hrun
            have HT := Lib.hid hTc
            clear hadd hfl hvX hrun hTc
            go_wp2_with fail
            refine HA.out.mono ?_
            rintro e w4 ⟨rfl, ⟨vs3, hT4, hun⟩, hb4⟩
            obtain ⟨ux, uv⟩ := hun X hXl (by omega) HV.out
            go_wp2_with fail
            go_roundw
            case rel =>
              refine ⟨yy + 1, by go_num, ⟨vs3, _, hT4, uv, ?_, fun i => ?_⟩, (hb4.cell (p := ⟨B, 0, none⟩) hBT).trans g0, (hb4.cell (p := ⟨B, 1, none⟩) hBT).trans g1, (hb4.cell (p := ⟨B, 2, none⟩) hBT).trans g2, (hb4.cell (p := ⟨B, 3, none⟩) hBT).trans g3,
                (World.cell?_of_block (a := ⟨X, 0, none⟩) ux).trans x0, (World.cell?_of_block (a := ⟨X, 1, none⟩) ux).trans x1, (World.cell?_of_block (a := ⟨X, 2, none⟩) ux).trans x2, Nat.lt_of_lt_of_le hXl hb4.size, hbq.trans (hb4.mono (by omega))⟩
              · rw [← HRn.out, show (hi + 1 - (yy : Int)).toNat = (hi + 1 - ((yy + 1 : Nat) : Int)).toNat + 1 by omega]
                rfl
              · have h1 := HF.out i
                by_cases e : i = yy
                · subst e
                  have h2 := addF_len W H i fa ta fc i
                  rw [if_pos (Nat.le_refl _)] at h1
                  rw [if_neg (by omega)]
                  omega
                · rw [addF_other (by simpa using e)]
                  by_cases hyi : yy ≤ i
                  · rw [if_pos hyi] at h1
                    rw [if_pos (by omega)]
                    exact h1
                  · rw [if_neg hyi] at h1
                    rw [if_neg (by omega)]
                    exact h1
            case measure => simp [intOf]; omega
          · have hz : (hi + 1 - (yy : Int)).toNat = 0 := by omega
            rw [hz] at hrun
            have hfe : fc = fE := hrun
            subst hfe
            have HT := Lib.hid hTc
            have hyh' : hi < (yy : Int) := by omega
            clear hrun hfl hvX hTc
            go_wp2_with fail
            go_roundw
            case rel => exact ⟨k + 1, by omega, by go_num, by rw [HO.out], ⟨vs2, by rw [HE.out]; exact HT.out⟩, g0, g1, g2, g3, hbq⟩
            case measure => simp [intOf]; omega
    · have hke : k = n := by omega
      subst hke
      rw [List.take_of_length_le (by omega)] at hT ⊢
      have hreg := region_gr T vs (growF W H L l) wr hT (fun i _ => by have := growF_len W H L l i; omega) (fun i _ s hs => by have := growF_mem hs; omega)
      have HRg := Lib.hid hreg
      obtain ⟨o0, ho0⟩ : ∃ o, offL W H L l = o := ⟨_, rfl⟩
      rw [ho0]
      have HO0 := Lib.hid ho0
      clear hreg hT ho0
      go_wp2_with fail
      refine HRg.out.mono ?_
      rintro e w7 ⟨⟨R, hR, v', rfl, hv'⟩, hb7⟩
      have HR := Lib.hid hR
      have HV := Lib.hid hv'
      have hb8 := hb.trans (hb7.mono (by omega))
      have HB8 := Lib.hid hb8
      clear hR hv' hb7 hb8 d0 d1 d2 d3 hb
      by_cases hRl : R.length ≤ 8192
      · rw [if_pos hRl]
        go_wp2_with fail
        refine bodyPost_ret (v := .tuple #[v', .bool o0, .int .i64 0]) (by simp [results, Try.results11, go_sem]) rfl ⟨⟨R, by rw [hLw.out]; exact HR.out, v', by rw [if_pos hRl, if_pos hRl, hLw.out, HO0.out], HV.out⟩, by rw [hB]; exact HB8.out⟩
      · rw [if_neg hRl]
        go_wp2_with fail
        refine bodyPost_ret (v := .tuple #[.slice none 0 0, .bool false, .int .i64 3]) (by simp [results, Try.results11, go_sem]) rfl ⟨⟨R, by rw [hLw.out]; exact HR.out, _, by rw [if_neg hRl, if_neg hRl], by rw [if_neg hRl]; exact Lst.nil _⟩, by rw [hB]; exact HB8.out⟩
end Go.Proofs.Ytnbdnnbeiohmgaa
