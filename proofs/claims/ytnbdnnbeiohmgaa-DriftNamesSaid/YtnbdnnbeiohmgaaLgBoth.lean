/- grid.Both and grid.Either, of valid regions. -/
import Derived.Test.YtnbdnnbeiohmgaaLgA
import Derived.Test.YtnbdnnbeiohmgaaLgConcat
namespace Go.Proofs.Ytnbdnnbeiohmgaa
open Go.RowKit Go.Shelf

set_option maxRecDepth 100000 in
set_option maxHeartbeats 16000000 in
theorem gboth_gr (W H S : Int) (vL va vb : Value) (ld a b : List R3) (w : World) (hLd : Runs w vL ld) (ha : Runs w va a) (hb : Runs w vb b) (hok : checkRs W H S ld [a, b] = true) :
    Calls Try.prog 22 #[.agg #[.int .i64 W, .int .i64 H, .int .i64 S, vL], va, vb] w fun e w' =>
      (∃ R, RegOf (bothF W H (a.length + b.length) a b fun _ => []) R ∧ ∃ v, e = .returned (.tuple #[v, .int .i64 (if R.length ≤ 8192 then 0 else 3)]) ∧ Runs w' v (if R.length ≤ 8192 then R else [])) ∧ Below w.heap.size w w' := by
  have hok' := hok
  simp only [checkRs, List.all_cons, List.all_nil, Bool.and_true, Bool.and_eq_true] at hok'
  obtain ⟨hW, hH, hS, -⟩ := checkG_iff hok'.1
  have hla : a.length ≤ 8192 := by have := hok'.2.1; simp only [rightB, Bool.and_eq_true, decide_eq_true_eq] at this; exact this.2
  have hlb : b.length ≤ 8192 := by have := hok'.2.2; simp only [rightB, Bool.and_eq_true, decide_eq_true_eq] at this; exact this.2
  clear hok'
  have hfarA : ∀ g, va.ownBlock = some g → 0 < a.length → g < w.heap.size := fun g hg h0 => by
    obtain ⟨A, c, rfl, -, -, h3⟩ := ha
    obtain ⟨b', off, rfl, hbl, -⟩ := h3 h0
    simp [Value.ownBlock] at hg
    omega
  have hfarB : ∀ g, vb.ownBlock = some g → 0 < b.length → g < w.heap.size := fun g hg h0 => by
    obtain ⟨A, c, rfl, -, -, h3⟩ := hb
    obtain ⟨b', off, rfl, hbl, -⟩ := h3 h0
    simp [Value.ownBlock] at hg
    omega
  have HA := Lib.hid ha
  have HB := Lib.hid hb
  have HLd := Lib.hid hLd
  obtain ⟨Aa, ca, ea, -⟩ := ha
  obtain ⟨Ab, cb, eb, -⟩ := hb
  clear hLd
  go_enter Try.func22, Try.ntmps22
  go_wp2_with fail
  have b1 : Below w.heap.size w (w.alloc (.cells #[.int .i64 W, .int .i64 H, .int .i64 S, vL] 24)) := (Below.refl w.heap.size w).alloc (Nat.le_refl _) _
  have c0 : (w.alloc (.cells #[.int .i64 W, .int .i64 H, .int .i64 S, vL] 24)).cell? ⟨w.heap.size, 0, none⟩ = some (.int .i64 W) := by simp [go_sem]
  have c1 : (w.alloc (.cells #[.int .i64 W, .int .i64 H, .int .i64 S, vL] 24)).cell? ⟨w.heap.size, 1, none⟩ = some (.int .i64 H) := by simp [go_sem]
  have c2 : (w.alloc (.cells #[.int .i64 W, .int .i64 H, .int .i64 S, vL] 24)).cell? ⟨w.heap.size, 2, none⟩ = some (.int .i64 S) := by simp [go_sem]
  have c3 : (w.alloc (.cells #[.int .i64 W, .int .i64 H, .int .i64 S, vL] 24)).cell? ⟨w.heap.size, 3, none⟩ = some vL := by simp [go_sem]
  have hz1 : w.heap.size + 1 = (w.alloc (.cells #[.int .i64 W, .int .i64 H, .int .i64 S, vL] 24)).heap.size := by simp
  obtain ⟨w1, hw1⟩ : ∃ w1, (w.alloc (.cells #[.int .i64 W, .int .i64 H, .int .i64 S, vL] 24)) = w1 := ⟨_, rfl⟩
  rw [hw1] at b1 c0 c1 c2 c3 hz1 ⊢
  clear hw1
  have b1' := b1.alloc (by omega) (.cells #[.slice Aa a.length ca, .slice Ab b.length cb] 22)
  have hchk := checked_gr W H S vL (.slice (some ⟨w1.heap.size, 0, none⟩) 2 2) ld [.slice Aa a.length ca, .slice Ab b.length cb] [a, b] (w1.alloc (.cells #[.slice Aa a.length ca, .slice Ab b.length cb] 22)) (HLd.out.below b1') (Lst_lit (enc := enc1) (k := 1) (fun _ => rfl) w1 w1.heap.size 2 rfl #[.slice Aa a.length ca, .slice Ab b.length cb] [.slice Aa a.length ca, .slice Ab b.length cb] 22 rfl rfl (by unfold maxLen; omega)) rfl (fun i u x hu hx => by
    match i, hu, hx with
    | 0, hu, hx => simp at hu hx; subst hu hx; have := HA.out.below b1'; rw [ea] at this; exact this
    | 1, hu, hx => simp at hu hx; subst hu hx; have := HB.out.below b1'; rw [eb] at this; exact this
    | i + 2, hu, hx => simp at hu)
  rw [hok, argE_true] at hchk
  have w1b : Below w1.heap.size w1 (w1.alloc (.cells #[.slice Aa a.length ca, .slice Ab b.length cb] 22)) := (Below.refl _ _).alloc (Nat.le_refl _) _
  rw [hz1]
  refine hchk.mono ?_
  rintro e w2 ⟨rfl, hb2⟩
  have b12 := w1b.trans (hb2.mono w1b.size)
  obtain ⟨B, hB⟩ : ∃ B, w.heap.size = B := ⟨_, rfl⟩
  rw [hB] at b1 c0 c1 c2 c3 hz1 hfarA hfarB ⊢
  have c0 := (b12.cell (p := ⟨B, 0, none⟩) (by show B < w1.heap.size; omega)).trans c0
  have c1 := (b12.cell (p := ⟨B, 1, none⟩) (by show B < w1.heap.size; omega)).trans c1
  have c2 := (b12.cell (p := ⟨B, 2, none⟩) (by show B < w1.heap.size; omega)).trans c2
  have c3 := (b12.cell (p := ⟨B, 3, none⟩) (by show B < w1.heap.size; omega)).trans c3
  have b2 := b1.trans (b12.mono (by omega))
  have hz2 := b12.size
  clear hchk w1b hb2 b12 b1 b1'
  clear ea eb
  go_upto_region 5 with fail
  have T0 := Tab.new w2 w2.heap.size rfl
  have b3 := b2.alloc (by omega) (.cells Try.zeroCells100 100)
  have c0 := (World.cell?_alloc_lt w2 (.cells Try.zeroCells100 100) ⟨B, 0, none⟩ (by show B < w2.heap.size; omega)).trans c0
  have c1 := (World.cell?_alloc_lt w2 (.cells Try.zeroCells100 100) ⟨B, 1, none⟩ (by show B < w2.heap.size; omega)).trans c1
  have c2 := (World.cell?_alloc_lt w2 (.cells Try.zeroCells100 100) ⟨B, 2, none⟩ (by show B < w2.heap.size; omega)).trans c2
  have c3 := (World.cell?_alloc_lt w2 (.cells Try.zeroCells100 100) ⟨B, 3, none⟩ (by show B < w2.heap.size; omega)).trans c3
  obtain ⟨T, hT⟩ : ∃ T, w2.heap.size = T := ⟨_, rfl⟩
  obtain ⟨w3, hw3⟩ : ∃ w3, w2.alloc (.cells Try.zeroCells100 100) = w3 := ⟨_, rfl⟩
  have hz3 : w3.heap.size = T + 1 := by rw [← hw3, ← hT]; simp
  rw [hw3, hT] at T0
  rw [hw3] at b3 c0 c1 c2 c3 ⊢
  rw [hT]
  clear hw3 b2
  have hB3 : B < w3.heap.size := by omega
  have hBT : B < T := by omega
  have hT3 : T < w3.heap.size := by omega
  have hnil : ∀ (g : Nat) (i : Nat), i < 256 → ((fun _ => .slice none 0 0 : Nat → Value) i).ownBlock ≠ some g := fun g i _ hh => by simp [Value.ownBlock] at hh
  have HBo := Lib.hid (both_gr W H S vL va vb a b T _ _ w3 hW hH T0 (HA.out.below (by rw [hB]; exact b3)) (HB.out.below (by rw [hB]; exact b3)) (fun g hg h0 => ⟨by have := hfarA g hg h0; omega, by have := hfarA g hg h0; omega, hnil g⟩) (fun g hg h0 => ⟨by have := hfarB g hg h0; omega, by have := hfarB g hg h0; omega, hnil g⟩) (fun i => by simp only [List.length_nil]; omega))
  clear hfarA hfarB hnil T0
  go_wp2_with fail
  refine HBo.out.mono ?_
  rintro e w5 ⟨rfl, ⟨vs5, T5⟩, hb5⟩
  clear c0 c1 c2 c3
  obtain ⟨fE, hfE⟩ : ∃ q, bothF W H (a.length + b.length) a b (fun _ => []) = q := ⟨_, rfl⟩
  have hmem : ∀ i, i < 256 → ∀ s, s ∈ fE i → 0 ≤ s.1 ∧ s.1 ≤ 256 := fun i _ s hs => by
    rw [← hfE] at hs
    rcases bothF_mem _ _ _ _ _ _ hs with h | h
    · simp at h
    · omega
  have hflen : ∀ i, i < 256 → (fE i).length ≤ 1000000 := fun i _ => by
    rw [← hfE]
    have := bothF_len (W := W) (H := H) (a.length + b.length) a b (fun _ => []) i
    simp only [List.length_nil] at this
    omega
  rw [hfE] at T5
  have hreg := region_gr T vs5 fE w5 T5 hflen hmem
  have HRg := Lib.hid hreg
  have HE := Lib.hid hfE
  have hbw5 := b3.trans (hb5.mono (by omega))
  clear hreg T5 hflen hmem hfE
  go_wp2_with fail
  refine HRg.out.mono ?_
  rintro e w7 ⟨⟨R, hR, v', rfl, hv'⟩, hb7⟩
  have HR := Lib.hid hR
  have HV := Lib.hid hv'
  have HB8 := Lib.hid (hbw5.trans (hb7.mono (by omega)))
  clear hR hv' hb7 hbw5
  obtain ⟨E, hE⟩ : ∃ E : Int, (if R.length ≤ 8192 then 0 else 3) = E := ⟨_, rfl⟩
  rw [hE]
  go_wp2_with fail
  refine bodyPost_ret (v := .tuple #[v', .int .i64 E]) (by simp [results, Try.results22, go_sem]) rfl ⟨⟨R, by rw [HE.out]; exact HR.out, v', by rw [hE], HV.out⟩, ?_⟩
  rw [hB]
  exact HB8.out

end Go.Proofs.Ytnbdnnbeiohmgaa
