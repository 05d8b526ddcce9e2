/- grid.Without; grid.Sea. -/
import Derived.Test.YtnbdnnbeiohmgaaGrBoth
import Derived.Deep.RegionHeld3
namespace Go.Proofs.Ytnbdnnbeiohmgaa
open Go.RowKit Go.Shelf Go.Lib

theorem meet_mem {W H : Int} {x y : R3} {f : Nat → List S2} {i : Nat} {s : S2} (h : s ∈ meet W H x y f i) : s ∈ f i ∨ ((i : Int) < H ∧ 0 ≤ s.1 ∧ s.1 < s.2 ∧ s.2 ≤ W) := by
  unfold meet at h
  split at h
  · exact addF_mem h
  · exact .inl h
theorem bothF_mem {W H : Int} : ∀ (n : Nat) (a b : List R3) (f : Nat → List S2) (i : Nat) (s : S2), s ∈ bothF W H n a b f i → s ∈ f i ∨ ((i : Int) < H ∧ 0 ≤ s.1 ∧ s.1 < s.2 ∧ s.2 ≤ W) := by
  intro n
  induction n with
  | zero => intro a b f i s h; exact .inl h
  | succ n ih =>
    intro a b f i s h
    match a, b with
    | [], b => rw [bothF_nilA] at h; exact .inl h
    | x :: a, [] => rw [bothF_nilB] at h; exact .inl h
    | x :: a, y :: b =>
      rw [bothF] at h
      split at h
      · rcases ih _ _ _ _ _ h with h | h
        · exact meet_mem h
        · exact .inr h
      · rcases ih _ _ _ _ _ h with h | h
        · exact meet_mem h
        · exact .inr h
theorem bothF_len {W H : Int} : ∀ (n : Nat) (a b : List R3) (f : Nat → List S2) (i : Nat), (bothF W H n a b f i).length ≤ (f i).length + n := by
  intro n
  induction n with
  | zero => intro a b f i; exact Nat.le_refl _
  | succ n ih =>
    intro a b f i
    match a, b with
    | [], b => rw [bothF_nilA]; omega
    | x :: a, [] => rw [bothF_nilB]; omega
    | x :: a, y :: b =>
      have hm := meet_len W H x y f i
      rw [bothF]
      split
      · have := ih a (y :: b) (meet W H x y f) i; omega
      · have := ih (x :: a) b (meet W H x y f) i; omega

set_option maxRecDepth 100000 in
set_option maxHeartbeats 16000000 in
theorem without_gr (W H S : Int) (vL va vb : Value) (ld a b : List R3) (w : World) (hLd : Runs w vL ld) (ha : Runs w va a) (hb : Runs w vb b) (hok : checkRs W H S ld [a, b] = true) :
    Calls Try.prog 24 #[.agg #[.int .i64 W, .int .i64 H, .int .i64 S, vL], va, vb] w fun e w' =>
      (∃ R, RegOf (bothF W H (a.length + (othF W b H.toNat).1.length) a (othF W b H.toNat).1 fun _ => []) R ∧ ∃ v, e = .returned (.tuple #[v, .int .i64 (if R.length ≤ 8192 then 0 else 3)]) ∧ Runs w' v (if R.length ≤ 8192 then R else [])) ∧ Below w.heap.size w w' := by
  have hok' := hok
  simp only [checkRs, List.all_cons, List.all_nil, Bool.and_true, Bool.and_eq_true] at hok'
  obtain ⟨hW, hH, hS, -⟩ := checkG_iff hok'.1
  have hla : a.length ≤ 8192 := by have := hok'.2.1; simp only [rightB, Bool.and_eq_true, decide_eq_true_eq] at this; exact this.2
  have hlb : b.length ≤ 8192 := by have := hok'.2.2; simp only [rightB, Bool.and_eq_true, decide_eq_true_eq] at this; exact this.2
  have hlo := othF_len W b H.toNat
  clear hok'
  have hfarA : ∀ g, va.ownBlock = some g → 0 < a.length → g < w.heap.size := fun g hg h0 => by
    obtain ⟨A, c, rfl, -, -, h3⟩ := ha
    obtain ⟨b', off, rfl, hbl, -⟩ := h3 h0
    simp [Value.ownBlock] at hg
    omega
  have HA := Lib.hid ha
  have HB := Lib.hid hb
  have HLd := Lib.hid hLd
  obtain ⟨Aa, ca, ea, -⟩ := ha
  obtain ⟨Ab, cb, eb, -⟩ := hb
  clear hLd
  go_enter Try.func24, Try.ntmps24
  go_wp2_with fail
  have b1 : Below w.heap.size w (w.alloc (.cells #[.int .i64 W, .int .i64 H, .int .i64 S, vL] 24)) := (Below.refl w.heap.size w).alloc (Nat.le_refl _) _
  have c0 : (w.alloc (.cells #[.int .i64 W, .int .i64 H, .int .i64 S, vL] 24)).cell? ⟨w.heap.size, 0, none⟩ = some (.int .i64 W) := by simp [go_sem]
  have c1 : (w.alloc (.cells #[.int .i64 W, .int .i64 H, .int .i64 S, vL] 24)).cell? ⟨w.heap.size, 1, none⟩ = some (.int .i64 H) := by simp [go_sem]
  have c2 : (w.alloc (.cells #[.int .i64 W, .int .i64 H, .int .i64 S, vL] 24)).cell? ⟨w.heap.size, 2, none⟩ = some (.int .i64 S) := by simp [go_sem]
  have c3 : (w.alloc (.cells #[.int .i64 W, .int .i64 H, .int .i64 S, vL] 24)).cell? ⟨w.heap.size, 3, none⟩ = some vL := by simp [go_sem]
  have hz1 : w.heap.size + 1 = (w.alloc (.cells #[.int .i64 W, .int .i64 H, .int .i64 S, vL] 24)).heap.size := by simp
  obtain ⟨w1, hw1⟩ : ∃ w1, (w.alloc (.cells #[.int .i64 W, .int .i64 H, .int .i64 S, vL] 24)) = w1 := ⟨_, rfl⟩
  rw [hw1] at b1 c0 c1 c2 c3 hz1 ⊢
  clear hw1
  have b1' := b1.alloc (by omega) (.cells #[.slice Aa a.length ca, .slice Ab b.length cb] 22)
  have hchk := checked_gr W H S vL (.slice (some ⟨w1.heap.size, 0, none⟩) 2 2) ld [.slice Aa a.length ca, .slice Ab b.length cb] [a, b] (w1.alloc (.cells #[.slice Aa a.length ca, .slice Ab b.length cb] 22)) (HLd.out.below b1') (Lst_lit (enc := enc1) (k := 1) (fun _ => rfl) w1 w1.heap.size 2 rfl #[.slice Aa a.length ca, .slice Ab b.length cb] [.slice Aa a.length ca, .slice Ab b.length cb] 22 rfl rfl (by unfold maxLen; omega)) rfl (fun i u x hu hx => by
    match i, hu, hx with
    | 0, hu, hx => simp at hu hx; subst hu hx; have := HA.out.below b1'; rw [ea] at this; exact this
    | 1, hu, hx => simp at hu hx; subst hu hx; have := HB.out.below b1'; rw [eb] at this; exact this
    | i + 2, hu, hx => simp at hu)
  rw [hok, argE_true] at hchk
  have w1b : Below w1.heap.size w1 (w1.alloc (.cells #[.slice Aa a.length ca, .slice Ab b.length cb] 22)) := (Below.refl _ _).alloc (Nat.le_refl _) _
  rw [hz1]
  refine hchk.mono ?_
  rintro e w2 ⟨rfl, hb2⟩
  have b12 := w1b.trans (hb2.mono w1b.size)
  obtain ⟨B, hB⟩ : ∃ B, w.heap.size = B := ⟨_, rfl⟩
  rw [hB] at b1 c0 c1 c2 c3 hz1 hfarA ⊢
  have c0 := (b12.cell (p := ⟨B, 0, none⟩) (by show B < w1.heap.size; omega)).trans c0
  have c1 := (b12.cell (p := ⟨B, 1, none⟩) (by show B < w1.heap.size; omega)).trans c1
  have c2 := (b12.cell (p := ⟨B, 2, none⟩) (by show B < w1.heap.size; omega)).trans c2
  have c3 := (b12.cell (p := ⟨B, 3, none⟩) (by show B < w1.heap.size; omega)).trans c3
  have b2 := b1.trans (b12.mono (by omega))
  have hz2 := b12.size
  clear hchk w1b hb2 b12 b1 b1'
  clear ea eb
  go_wp2_with fail
  have T0 := Tab.new w2 w2.heap.size rfl
  have b3 := b2.alloc (by omega) (.cells Try.zeroCells100 100)
  have c0 := (World.cell?_alloc_lt w2 (.cells Try.zeroCells100 100) ⟨B, 0, none⟩ (by show B < w2.heap.size; omega)).trans c0
  have c1 := (World.cell?_alloc_lt w2 (.cells Try.zeroCells100 100) ⟨B, 1, none⟩ (by show B < w2.heap.size; omega)).trans c1
  have c2 := (World.cell?_alloc_lt w2 (.cells Try.zeroCells100 100) ⟨B, 2, none⟩ (by show B < w2.heap.size; omega)).trans c2
  have c3 := (World.cell?_alloc_lt w2 (.cells Try.zeroCells100 100) ⟨B, 3, none⟩ (by show B < w2.heap.size; omega)).trans c3
  obtain ⟨T, hT⟩ : ∃ T, w2.heap.size = T := ⟨_, rfl⟩
  obtain ⟨w3, hw3⟩ : ∃ w3, w2.alloc (.cells Try.zeroCells100 100) = w3 := ⟨_, rfl⟩
  have hz3 : w3.heap.size = T + 1 := by rw [← hw3, ← hT]; simp
  rw [hw3, hT] at T0
  rw [hw3] at b3 c0 c1 c2 c3 ⊢
  rw [hT]
  clear hw3 b2
  have hB3 : B < w3.heap.size := by omega
  have HO := Lib.hid (others_gr W H S vL vb b w3.drew hW hH (HB.out.below (by rw [hB]; exact belowDrew b3)) (by omega))
  have hBT : B < T := by omega
  have hT3 : T < w3.heap.size := by omega
  have hfA : ∀ g, va.ownBlock = some g → 0 < a.length → g < T := fun g hg h0 => Nat.lt_trans (hfarA g hg h0) hBT
  have hfA3 : ∀ g, va.ownBlock = some g → 0 < a.length → g < w3.heap.size := fun g hg h0 => Nat.lt_trans (hfA g hg h0) hT3
  have hnil : ∀ (g : Nat) (i : Nat), i < 256 → ((fun _ => .slice none 0 0 : Nat → Value) i).ownBlock ≠ some g := fun g i _ hh => by simp [Value.ownBlock] at hh
  have hcnt : ∀ i : Nat, ((fun _ => [] : Nat → List S2) i).length + (a.length + (othF W b H.toNat).1.length) ≤ 1000000 := fun i => by simp only [List.length_nil]; omega
  have hbAll : ∀ w4, Below w3.heap.size w3 w4 → Below w.heap.size w w4 := fun w4 hb4 => by rw [hB]; exact b3.trans (hb4.mono (by omega))
  go_region_held3 (fun W' => W'.cell? ⟨B, 0, none⟩ = some (.int .i64 W) ∧ W'.cell? ⟨B, 1, none⟩ = some (.int .i64 H) ∧ W'.cell? ⟨B, 2, none⟩ = some (.int .i64 S) ∧ W'.cell? ⟨B, 3, none⟩ = some vL)
    (first | exact ⟨c0, c1, c2, c3⟩ | exact ⟨d0, d1, d2, d3⟩ | exact ⟨g0, g1, g2, g3⟩)
    (first | (go_at_call 68; (with_reducible refine HO.out.mono ?_); rintro e w4 ⟨⟨u, rfl, hu, hub⟩, hb4⟩; have d0 := (hb4.cell (p := ⟨B, 0, none⟩) hB3).trans c0; have d1 := (hb4.cell (p := ⟨B, 1, none⟩) hB3).trans c1; have d2 := (hb4.cell (p := ⟨B, 2, none⟩) hB3).trans c2; have d3 := (hb4.cell (p := ⟨B, 3, none⟩) hB3).trans c3; have hb4' : Below w3.heap.size w3 w4 := ⟨hb4.os, hb4.tape, hb4.output, hb4.size, hb4.block⟩; have T4 := T0.below hb4'; have ha4 := HA.out.below (hbAll w4 hb4'); have hz4 : w3.heap.size ≤ w4.heap.size := hb4.size; have hub' : ∀ g, u.ownBlock = some g → w3.heap.size ≤ g ∧ g < w4.heap.size := hub; have HBo := Lib.hid (both_gr W H S vL va u a (othF W b H.toNat).1 T _ _ w4 hW hH T4 ha4 hu (fun g hg h0 => ⟨Nat.ne_of_lt (hfA g hg h0), Nat.lt_of_lt_of_le (hfA3 g hg h0) hz4, hnil g⟩) (fun g hg h0 => ⟨Nat.ne_of_gt (Nat.lt_of_lt_of_le hT3 (hub' g hg).1), (hub' g hg).2, hnil g⟩) hcnt); skip) | (go_at_call 67; (with_reducible refine HBo.out.mono ?_); rintro e w5 ⟨rfl, ⟨vs5, T5⟩, hb5⟩; have g0 := (hb5.cell (p := ⟨B, 0, none⟩) hBT).trans d0; have g1 := (hb5.cell (p := ⟨B, 1, none⟩) hBT).trans d1; have g2 := (hb5.cell (p := ⟨B, 2, none⟩) hBT).trans d2; have g3 := (hb5.cell (p := ⟨B, 3, none⟩) hBT).trans d3; skip))
  rename_i hHeld
  clear hHeld
  obtain ⟨fE, hfE⟩ : ∃ q, bothF W H (a.length + (othF W b H.toNat).1.length) a (othF W b H.toNat).1 (fun _ => []) = q := ⟨_, rfl⟩
  have hmem : ∀ i, i < 256 → ∀ s, s ∈ fE i → 0 ≤ s.1 ∧ s.1 ≤ 256 := fun i _ s hs => by
    rw [← hfE] at hs
    rcases bothF_mem _ _ _ _ _ _ hs with h | h
    · simp at h
    · omega
  have hflen : ∀ i, i < 256 → (fE i).length ≤ 1000000 := fun i _ => by
    rw [← hfE]
    have := bothF_len (W := W) (H := H) (a.length + (othF W b H.toNat).1.length) a (othF W b H.toNat).1 (fun _ => []) i
    simp only [List.length_nil] at this
    omega
  rw [hfE] at T5
  have hreg := region_gr T vs5 fE w5 T5 hflen hmem
  have HRg := Lib.hid hreg
  have HE := Lib.hid hfE
  have hbw := b3.trans (hb4'.mono (by omega))
  have hbw5 := hbw.trans (hb5.mono (by omega))
  clear hreg T5 hflen hmem hfE
  go_wp2_with fail
  refine HRg.out.mono ?_
  rintro e w7 ⟨⟨R, hR, v', rfl, hv'⟩, hb7⟩
  have HR := Lib.hid hR
  have HV := Lib.hid hv'
  have HB8 := Lib.hid (hbw5.trans (hb7.mono (by omega)))
  clear hR hv' hb7 hbw5 hbw
  obtain ⟨E, hE⟩ : ∃ E : Int, (if R.length ≤ 8192 then 0 else 3) = E := ⟨_, rfl⟩
  rw [hE]
  go_wp2_with fail
  refine bodyPost_ret (v := .tuple #[v', .int .i64 E]) (by simp [results, Try.results24, go_sem]) rfl ⟨⟨R, by rw [HE.out]; exact HR.out, v', by rw [hE], HV.out⟩, ?_⟩
  rw [hB]
  exact HB8.out

set_option maxRecDepth 100000 in
set_option maxHeartbeats 4000000 in
/-- the sea of the chapter's grid -/
theorem sea_little (vL : Value) (w : World) (h : Runs w vL [(0, 0, 2)]) :
    Calls Try.prog 50 #[.agg #[.int .i64 4, .int .i64 3, .int .i64 10, vL]] w fun e w' => (∃ v, e = .returned (.tuple #[v, .int .i64 0]) ∧ Runs w' v [(0, 2, 4), (1, 0, 4), (2, 0, 4)]) ∧ Below w.heap.size w w' := by
  have hck : checkG 4 3 10 [(0, 0, 2)] = true := by decide +kernel
  have b1 : Below w.heap.size w (w.alloc (.cells #[.int .i64 4, .int .i64 3, .int .i64 10, vL] 24)) := (Below.refl w.heap.size w).alloc (Nat.le_refl _) _
  have HA := Lib.hid (all_gr 4 3 10 vL [(0, 0, 2)] _ (h.below b1) hck)
  have HL := Lib.hid h
  clear h
  go_enter Try.func50, Try.ntmps50
  go_wp2_with fail
  refine HA.out.mono ?_
  rintro e w1 ⟨⟨R, hR, v, rfl, hv⟩, hb1⟩
  have b2 := b1.trans (hb1.mono (by simp))
  have c0 := hb1.cell (p := ⟨w.heap.size, 0, none⟩) (by simp)
  have c1 := hb1.cell (p := ⟨w.heap.size, 1, none⟩) (by simp)
  have c2 := hb1.cell (p := ⟨w.heap.size, 2, none⟩) (by simp)
  have c3 := hb1.cell (p := ⟨w.heap.size, 3, none⟩) (by simp)
  simp [go_sem] at c0 c1 c2 c3
  have hRe : R = [(0, 0, 4), (1, 0, 4), (2, 0, 4)] := by
    rw [hR.single (fun y _ => fillF_len _ _ _ y)]
    decide +kernel
  subst hRe
  have HW := Lib.hid (without_gr 4 3 10 vL v vL [(0, 0, 2)] [(0, 0, 4), (1, 0, 4), (2, 0, 4)] [(0, 0, 2)] w1 (HL.out.below b2) hv (HL.out.below b2) (by decide +kernel))
  clear hR hv hb1 b1 HA
  go_wp2_with fail
  refine HW.out.mono ?_
  rintro e w2 ⟨⟨R, hR, v2, rfl, hv2⟩, hb2⟩
  have hRe : R = [(0, 2, 4), (1, 0, 4), (2, 0, 4)] := by
    refine (hR.single (fun y hy => ?_)).trans ?_
    · have : (List.range 256).all (fun y => decide ((bothF 4 3 ([(0, 0, 4), (1, 0, 4), (2, 0, 4)].length + (othF 4 [(0, 0, 2)] (3 : Int).toNat).1.length) [(0, 0, 4), (1, 0, 4), (2, 0, 4)] (othF 4 [(0, 0, 2)] (3 : Int).toNat).1 (fun _ => []) y).length ≤ 1)) = true := by decide +kernel
      exact of_decide_eq_true (List.all_eq_true.1 this y (List.mem_range.2 hy))
    · decide +kernel
  subst hRe
  have HV := Lib.hid hv2
  have hb3 := b2.trans (hb2.mono (by have := b2.size; omega))
  clear hR hv2 HW
  simp only [List.length_cons, List.length_nil] at HV ⊢
  go_wp2_with fail
  refine bodyPost_ret (v := .tuple #[v2, .int .i64 0]) (by simp [results, Try.results50, go_sem]) rfl ⟨⟨v2, rfl, ?_⟩, hb3⟩
  simpa using HV.out
end Go.Proofs.Ytnbdnnbeiohmgaa
