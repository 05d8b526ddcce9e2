/- grid.Either, of valid regions. -/
import Derived.Test.YtnbdnnbeiohmgaaLgPlain
import Derived.Test.YtnbdnnbeiohmgaaLgConcat
namespace Go.Proofs.Ytnbdnnbeiohmgaa
open Go.RowKit Go.Shelf

set_option maxRecDepth 100000 in
set_option maxHeartbeats 16000000 in
theorem geither_gr (W H S : Int) (vL va vb : Value) (ld a b : List R3) (w : World) (hLd : Runs w vL ld) (ha : Runs w va a) (hb : Runs w vb b) (hok : checkRs W H S ld [a, b] = true) (ha0 : 0 < a.length) (hb0 : 0 < b.length) :
    Calls Try.prog 20 #[.agg #[.int .i64 W, .int .i64 H, .int .i64 S, vL], va, vb] w fun e w' =>
      (∃ R, RegOf (eithF W H (a ++ b)) R ∧ ∃ v, e = .returned (.tuple #[v, .int .i64 (if R.length ≤ 8192 then 0 else 3)]) ∧ Runs w' v (if R.length ≤ 8192 then R else [])) ∧ Below w.heap.size w w' := by
  have hok' := hok
  simp only [checkRs, List.all_cons, List.all_nil, Bool.and_true, Bool.and_eq_true] at hok'
  obtain ⟨hW, hH, hS, -⟩ := checkG_iff hok'.1
  have hla : a.length ≤ 8192 := by have := hok'.2.1; simp only [rightB, Bool.and_eq_true, decide_eq_true_eq] at this; exact this.2
  have hlb : b.length ≤ 8192 := by have := hok'.2.2; simp only [rightB, Bool.and_eq_true, decide_eq_true_eq] at this; exact this.2
  clear hok'
  have HA := Lib.hid ha
  have HB := Lib.hid hb
  have HLd := Lib.hid hLd
  obtain ⟨Aa, ca, ea, -⟩ := ha
  obtain ⟨Ab, cb, eb, -⟩ := hb
  clear hLd
  go_enter Try.func20, Try.ntmps20
  go_wp2_with fail
  have b1 : Below w.heap.size w (w.alloc (.cells #[.int .i64 W, .int .i64 H, .int .i64 S, vL] 24)) := (Below.refl w.heap.size w).alloc (Nat.le_refl _) _
  have c0 : (w.alloc (.cells #[.int .i64 W, .int .i64 H, .int .i64 S, vL] 24)).cell? ⟨w.heap.size, 0, none⟩ = some (.int .i64 W) := by simp [go_sem]
  have c1 : (w.alloc (.cells #[.int .i64 W, .int .i64 H, .int .i64 S, vL] 24)).cell? ⟨w.heap.size, 1, none⟩ = some (.int .i64 H) := by simp [go_sem]
  have c2 : (w.alloc (.cells #[.int .i64 W, .int .i64 H, .int .i64 S, vL] 24)).cell? ⟨w.heap.size, 2, none⟩ = some (.int .i64 S) := by simp [go_sem]
  have c3 : (w.alloc (.cells #[.int .i64 W, .int .i64 H, .int .i64 S, vL] 24)).cell? ⟨w.heap.size, 3, none⟩ = some vL := by simp [go_sem]
  have hz1 : w.heap.size + 1 = (w.alloc (.cells #[.int .i64 W, .int .i64 H, .int .i64 S, vL] 24)).heap.size := by simp
  obtain ⟨w1, hw1⟩ : ∃ w1, (w.alloc (.cells #[.int .i64 W, .int .i64 H, .int .i64 S, vL] 24)) = w1 := ⟨_, rfl⟩
  rw [hw1] at b1 c0 c1 c2 c3 hz1 ⊢
  clear hw1
  have b1' := b1.alloc (by omega) (.cells #[.slice Aa a.length ca, .slice Ab b.length cb] 22)
  have hchk := checked_gr W H S vL (.slice (some ⟨w1.heap.size, 0, none⟩) 2 2) ld [.slice Aa a.length ca, .slice Ab b.length cb] [a, b] (w1.alloc (.cells #[.slice Aa a.length ca, .slice Ab b.length cb] 22)) (HLd.out.below b1') (Lst_lit (enc := enc1) (k := 1) (fun _ => rfl) w1 w1.heap.size 2 rfl #[.slice Aa a.length ca, .slice Ab b.length cb] [.slice Aa a.length ca, .slice Ab b.length cb] 22 rfl rfl (by unfold maxLen; omega)) rfl (fun i u x hu hx => by
    match i, hu, hx with
    | 0, hu, hx => simp at hu hx; subst hu hx; have := HA.out.below b1'; rw [ea] at this; exact this
    | 1, hu, hx => simp at hu hx; subst hu hx; have := HB.out.below b1'; rw [eb] at this; exact this
    | i + 2, hu, hx => simp at hu)
  rw [hok, argE_true] at hchk
  have w1b : Below w1.heap.size w1 (w1.alloc (.cells #[.slice Aa a.length ca, .slice Ab b.length cb] 22)) := (Below.refl _ _).alloc (Nat.le_refl _) _
  rw [hz1]
  refine hchk.mono ?_
  rintro e w2 ⟨rfl, hb2⟩
  have b12 := w1b.trans (hb2.mono w1b.size)
  obtain ⟨B, hB⟩ : ∃ B, w.heap.size = B := ⟨_, rfl⟩
  rw [hB] at b1 c0 c1 c2 c3 hz1 ⊢
  have c0 := (b12.cell (p := ⟨B, 0, none⟩) (by show B < w1.heap.size; omega)).trans c0
  have c1 := (b12.cell (p := ⟨B, 1, none⟩) (by show B < w1.heap.size; omega)).trans c1
  have c2 := (b12.cell (p := ⟨B, 2, none⟩) (by show B < w1.heap.size; omega)).trans c2
  have c3 := (b12.cell (p := ⟨B, 3, none⟩) (by show B < w1.heap.size; omega)).trans c3
  have b2 := b1.trans (b12.mono (by omega))
  have hz2 := b12.size
  clear hchk w1b hb2 b12 b1 b1'
  subst ea
  subst eb
  go_upto_region 5 with fail
  have T0 := Tab.new w2 w2.heap.size rfl
  have b3 := b2.alloc (by omega) (.cells Try.zeroCells100 100)
  have c0 := (World.cell?_alloc_lt w2 (.cells Try.zeroCells100 100) ⟨B, 0, none⟩ (by show B < w2.heap.size; omega)).trans c0
  have c1 := (World.cell?_alloc_lt w2 (.cells Try.zeroCells100 100) ⟨B, 1, none⟩ (by show B < w2.heap.size; omega)).trans c1
  have c2 := (World.cell?_alloc_lt w2 (.cells Try.zeroCells100 100) ⟨B, 2, none⟩ (by show B < w2.heap.size; omega)).trans c2
  have c3 := (World.cell?_alloc_lt w2 (.cells Try.zeroCells100 100) ⟨B, 3, none⟩ (by show B < w2.heap.size; omega)).trans c3
  obtain ⟨T, hT⟩ : ∃ T, w2.heap.size = T := ⟨_, rfl⟩
  obtain ⟨w3, hw3⟩ : ∃ w3, w2.alloc (.cells Try.zeroCells100 100) = w3 := ⟨_, rfl⟩
  have hz3 : w3.heap.size = T + 1 := by rw [← hw3, ← hT]; simp
  rw [hw3, hT] at T0
  rw [hw3] at b3 c0 c1 c2 c3 ⊢
  rw [hT]
  clear hw3 b2
  have hB3 : B < w3.heap.size := by omega
  have hBT : B < T := by omega
  have hT3 : T < w3.heap.size := by omega
  have hnil : ∀ (g : Nat) (i : Nat), i < 256 → ((fun _ => .slice none 0 0 : Nat → Value) i).ownBlock ≠ some g := fun g i _ hh => by simp [Value.ownBlock] at hh
  have b3' := b3.alloc (by omega) (.cells #[.slice Aa a.length ca, .slice Ab b.length cb] 22)
  have HCo := Lib.hid (concat_gr (.slice Aa a.length ca) (.slice Ab b.length cb) a b (T + 1) (w3.alloc (.cells #[.slice Aa a.length ca, .slice Ab b.length cb] 22)) (Lst_lit (enc := enc1) (k := 1) (fun _ => rfl) w3 (T + 1) 2 hz3 #[.slice Aa a.length ca, .slice Ab b.length cb] [.slice Aa a.length ca, .slice Ab b.length cb] 22 rfl rfl (by unfold maxLen; omega)) (HA.out.below (by rw [hB]; exact b3')) (HB.out.below (by rw [hB]; exact b3')) ha0 hb0 (by omega))
  have T0 := T0.below ((Below.refl _ _).alloc (Nat.le_refl _) (.cells #[.slice Aa a.length ca, .slice Ab b.length cb] 22))
  have HT0 := Lib.hid T0
  have HB3 := Lib.hid b3'
  have HNil := Lib.hid hnil
  clear T0 b3' b3 hnil
  go_wp2_with fail
  refine HCo.out.mono ?_
  rintro e w4 ⟨⟨v, rfl, hv, hvo⟩, hb4⟩
  have be : Below w3.heap.size w3 (w3.alloc (.cells #[.slice Aa a.length ca, .slice Ab b.length cb] 22)) := (Below.refl _ _).alloc (Nat.le_refl _) _
  have T4 := HT0.out.below hb4
  have b4 := HB3.out.trans (hb4.mono (by simp; omega))
  have hb34 := be.trans (hb4.mono (by simp))
  have c0 := (hb34.cell (p := ⟨B, 0, none⟩) hB3).trans c0
  have c1 := (hb34.cell (p := ⟨B, 1, none⟩) hB3).trans c1
  have c2 := (hb34.cell (p := ⟨B, 2, none⟩) hB3).trans c2
  have c3 := (hb34.cell (p := ⟨B, 3, none⟩) hB3).trans c3
  have hFar : Far w4 T (fun _ => .slice none 0 0) v (a ++ b) := fun g hg h0 => by
    have := hvo g hg
    have hsz : (w3.alloc (.cells #[.slice Aa a.length ca, .slice Ab b.length cb] 22)).heap.size = w3.heap.size + 1 := by simp
    rw [hsz] at this
    exact ⟨by omega, this.2, HNil.out g⟩
  have hz4 := hb34.size
  have hm0 : (a ++ b).length ≤ 16384 := by simp only [List.length_append]; omega
  obtain ⟨L, hL⟩ : ∃ L, a ++ b = L := ⟨_, rfl⟩
  rw [hL] at hv hFar hm0
  obtain ⟨Av, cv, rfl, -⟩ := (show Runs w4 v L from hv)
  obtain ⟨m, hm⟩ : ∃ m, L.length = m := ⟨_, rfl⟩
  rw [hm] at hv hFar hm0 ⊢
  have HLe := Lib.hid hL
  have HMe := Lib.hid hm
  clear hb34 hb4 be hvo HT0 HB3 HCo hL hm hz3
  go_wp2_with fail
  go_loopw [27] (fun i wr => ∃ k : Nat, k ≤ m ∧ i = .int .i64 k ∧ (∃ vs, Tab wr T vs (eithF W H (L.take k)) ∧ Far wr T vs (.slice Av m cv) L) ∧ Runs wr (.slice Av m cv) L ∧ wr.cell? ⟨B, 0, none⟩ = some (.int .i64 W) ∧ wr.cell? ⟨B, 1, none⟩ = some (.int .i64 H) ∧ wr.cell? ⟨B, 2, none⟩ = some (.int .i64 S) ∧ wr.cell? ⟨B, 3, none⟩ = some vL ∧ Below B w wr ∧ T < wr.heap.size) (fun i _ => m - (intOf i).toNat)
  case atStart => exact ⟨0, Nat.zero_le _, rfl, ⟨_, T4, hFar⟩, hv, c0, c1, c2, c3, b4, by omega⟩
  case round =>
    obtain ⟨k, hk, rfl, ⟨vs, hT, hF⟩, hR, d0, d1, d2, d3, hb, hTs⟩ := hrel
    clear c0 c1 c2 c3 T4 hFar hv b4 hz4
    by_cases hlt : k < m
    · obtain ⟨⟨y, f, t⟩, hx⟩ : ∃ x, L[k]? = some x := ⟨_, List.getElem?_eq_getElem (by rw [HMe.out]; exact hlt)⟩
      obtain ⟨A', c', e', -, -, h3⟩ := (show Runs wr (.slice Av m cv) L from hR)
      simp only [Value.slice.injEq] at e'
      obtain ⟨bb, off, e2, hbl, hcs⟩ := h3 (by rw [HMe.out]; omega)
      obtain ⟨rfl, -, -⟩ := e'
      subst e2
      have m0 := hcs k 0 _ _ hx rfl
      have m1 := hcs k 1 _ _ hx rfl
      have m2 := hcs k 2 _ _ hx rfl
      rw [Nat.add_zero] at m0
      have hkn : (k : Int) < (m : Int) := by omega
      have HE := Lib.hid (eithF_take (W := W) (H := H) hx)
      clear hcs h3 hx
      go_upto_region 8 with fail
      have hre : Below wr.heap.size wr (wr.alloc (.cells #[.int .i64 y, .int .i64 f, .int .i64 t] 72)) := (Below.refl _ _).alloc (Nat.le_refl _) _
      have hBw : B < wr.heap.size := by omega
      have hT2 := hT.below hre
      have hF2 : Far (wr.alloc (.cells #[.int .i64 y, .int .i64 f, .int .i64 t] 72)) T vs (.slice (some ⟨bb, off, none⟩) m cv) L := fun g hg h0 => ⟨(hF g hg h0).1, by have := (hF g hg h0).2.1; simp; omega, (hF g hg h0).2.2⟩
      have hR2 := hR.below hre
      have d0 := (hre.cell (p := ⟨B, 0, none⟩) hBw).trans d0
      have d1 := (hre.cell (p := ⟨B, 1, none⟩) hBw).trans d1
      have d2 := (hre.cell (p := ⟨B, 2, none⟩) hBw).trans d2
      have d3 := (hre.cell (p := ⟨B, 3, none⟩) hBw).trans d3
      have x0 : (wr.alloc (.cells #[.int .i64 y, .int .i64 f, .int .i64 t] 72)).cell? ⟨wr.heap.size, 0, none⟩ = some (.int .i64 y) := by simp [go_sem]
      have x1 : (wr.alloc (.cells #[.int .i64 y, .int .i64 f, .int .i64 t] 72)).cell? ⟨wr.heap.size, 1, none⟩ = some (.int .i64 f) := by simp [go_sem]
      have x2 : (wr.alloc (.cells #[.int .i64 y, .int .i64 f, .int .i64 t] 72)).cell? ⟨wr.heap.size, 2, none⟩ = some (.int .i64 t) := by simp [go_sem]
      have hb2 := hb.trans (hre.mono (by omega))
      have hze : wr.heap.size < (wr.alloc (.cells #[.int .i64 y, .int .i64 f, .int .i64 t] 72)).heap.size := by simp
      have hTs2 := Nat.lt_trans hTs hze
      obtain ⟨X, hX⟩ : ∃ X, wr.heap.size = X := ⟨_, rfl⟩
      obtain ⟨we, hwe⟩ : ∃ we, wr.alloc (.cells #[.int .i64 y, .int .i64 f, .int .i64 t] 72) = we := ⟨_, rfl⟩
      rw [hwe] at hT2 hF2 hR2 d0 d1 d2 d3 x0 x1 x2 hb2 hze hTs2 ⊢
      rw [hX] at x0 x1 x2 hze hBw ⊢
      have hfl : ∀ i, i < 256 → (eithF W H (L.take k) i).length ≤ 1000000000 := fun i _ => by
        have := eithF_len W H (L.take k) i
        have h2 : (L.take k).length ≤ k := by simp; omega
        omega
      have HAd := Lib.hid (add_gr W H S y f t vL T vs (eithF W H (L.take k)) we hW hH hT2 hfl)
      have HF2 := Lib.hid hF2
      have HR2 := Lib.hid hR2
      have hBwe : B < we.heap.size := by omega
      clear hwe hre hT hF hR m0 m1 m2 hbl hT2 hF2 hR2 hfl hX hb
      go_wp2_with fail
      refine HAd.out.mono ?_
      rintro e w5 ⟨rfl, ⟨vs3, hT4, hun⟩, hb5⟩
      have hs5 := hb5.size
      have hfr := hun.far hs5 HF2.out
      have hR5 := HR2.out.keepBlock hs5 hfr.2
      have d0 := (hb5.cell (p := ⟨B, 0, none⟩) hBT).trans d0
      have d1 := (hb5.cell (p := ⟨B, 1, none⟩) hBT).trans d1
      have d2 := (hb5.cell (p := ⟨B, 2, none⟩) hBT).trans d2
      have d3 := (hb5.cell (p := ⟨B, 3, none⟩) hBT).trans d3
      have hb6 := hb2.trans (hb5.mono (by omega))
      have HT4 := Lib.hid hT4
      have HFr := Lib.hid hfr.1
      have HR5 := Lib.hid hR5
      clear hT4 hun hb5 hfr hR5 hb2 x0 x1 x2
      go_wp2_with fail
      go_roundw
      case rel => exact ⟨k + 1, by omega, by go_num, ⟨vs3, by rw [HE.out]; exact HT4.out, HFr.out⟩, HR5.out, d0, d1, d2, d3, hb6, by omega⟩
      case measure => simp [intOf]; omega
    · have hke : k = m := by omega
      subst hke
      rw [List.take_of_length_le (by have := HMe.out; omega)] at hT
      have hmem : ∀ i, i < 256 → ∀ s, s ∈ eithF W H L i → 0 ≤ s.1 ∧ s.1 ≤ 256 := fun i _ s hs => by
        have := eithF_mem hs
        omega
      have hflen : ∀ i, i < 256 → (eithF W H L i).length ≤ 1000000 := fun i _ => by
        have := eithF_len W H L i
        have := HMe.out
        omega
      have HRg := Lib.hid (region_gr T vs (eithF W H L) wr hT hflen hmem)
      clear hT hflen hmem hF hR
      go_wp2_with fail
      refine HRg.out.mono ?_
      rintro e w7 ⟨⟨R, hRR, v', rfl, hv'⟩, hb7⟩
      have HR := Lib.hid hRR
      have HV := Lib.hid hv'
      have HB8 := Lib.hid (hb.trans (hb7.mono (by omega)))
      clear hRR hv' hb7 hb
      obtain ⟨E, hE⟩ : ∃ E : Int, (if R.length ≤ 8192 then 0 else 3) = E := ⟨_, rfl⟩
      rw [hE]
      go_wp2_with fail
      refine bodyPost_ret (v := .tuple #[v', .int .i64 E]) (by simp [results, Try.results20, go_sem]) rfl ⟨⟨R, by rw [HLe.out]; exact HR.out, v', by rw [hE], HV.out⟩, ?_⟩
      rw [hB]
      exact HB8.out
end Go.Proofs.Ytnbdnnbeiohmgaa
