/- drift: at. -/
import Derived.Test.YtnbdnnbeiohmgaaDnC
namespace Go.Proofs.Ytnbdnnbeiohmgaa
open Go.RowKit Go.Shelf Go.Lib
attribute [local go_sem] Oper.semAt_some

/-- two boxes of two cells each that can be written -/
abbrev Two (w : World) (p q : Nat) (a b c d : Value) : Prop := w.cell? ⟨p, 0, none⟩ = some a ∧ w.cell? ⟨p, 1, none⟩ = some b ∧ w.cell? ⟨q, 0, none⟩ = some c ∧ w.cell? ⟨q, 1, none⟩ = some d ∧ w.frozen? ⟨p, 0, none⟩ = false ∧ w.frozen? ⟨p, 1, none⟩ = false ∧ w.frozen? ⟨q, 0, none⟩ = false ∧ w.frozen? ⟨q, 1, none⟩ = false
theorem Two.fst {w : World} {p q : Nat} {a b c d : Value} (hpq : p ≠ q) (h : Two w p q a b c d) (a' b' : Value) : Two ((w.setCell ⟨p, 0, none⟩ a').setCell ⟨p, 1, none⟩ b') p q a' b' c d := by
  obtain ⟨h0, h1, h2, h3, h4, h5, h6, h7⟩ := h
  have n01 : (⟨p, 1, none⟩ : Addr) ≠ ⟨p, 0, none⟩ := fun e => by injection e with e1 e2; omega
  refine ⟨?_, ?_, ?_, ?_, by simpa [go_sem] using h4, by simpa [go_sem] using h5, by simpa [go_sem] using h6, by simpa [go_sem] using h7⟩
  · rw [World.cell?_setCell_other _ _ _ _ n01]
    exact World.cell?_setCell_same _ _ _ h0
  · exact World.cell?_setCell_same _ _ _ ((World.cell?_setCell_other _ _ _ _ n01.symm).trans h1)
  · rw [World.cell?_setCell_other _ _ _ _ (fun e => by injection e with e1 e2; exact hpq e1), World.cell?_setCell_other _ _ _ _ (fun e => by injection e with e1 e2; exact hpq e1)]
    exact h2
  · rw [World.cell?_setCell_other _ _ _ _ (fun e => by injection e with e1 e2; exact hpq e1), World.cell?_setCell_other _ _ _ _ (fun e => by injection e with e1 e2; exact hpq e1)]
    exact h3
theorem Two.swap {w : World} {p q : Nat} {a b c d : Value} (h : Two w p q a b c d) : Two w q p c d a b := ⟨h.2.2.1, h.2.2.2.1, h.1, h.2.1, h.2.2.2.2.2.2.1, h.2.2.2.2.2.2.2, h.2.2.2.2.1, h.2.2.2.2.2.1⟩
theorem Two.snd {w : World} {p q : Nat} {a b c d : Value} (hpq : p ≠ q) (h : Two w p q a b c d) (c' d' : Value) : Two ((w.setCell ⟨q, 0, none⟩ c').setCell ⟨q, 1, none⟩ d') p q a b c' d' := (Two.fst (Ne.symm hpq) h.swap c' d').swap

theorem far2 {w : World} {p f q r : Nat} (hpf : p ≠ f) {v3 v4 v5 v6 : Value} (h3 : w.cell? ⟨f, 3, none⟩ = some v3) (h4 : w.cell? ⟨f, 4, none⟩ = some v4) (h5 : w.cell? ⟨f, 5, none⟩ = some v5) (h6 : w.cell? ⟨f, 6, none⟩ = some v6)
    (f0 : w.frozen? ⟨q, 0, none⟩ = false) (f1 : w.frozen? ⟨q, 1, none⟩ = false) (f2 : w.frozen? ⟨r, 0, none⟩ = false) (f3 : w.frozen? ⟨r, 1, none⟩ = false) (a b : Value) :
    ((w.setCell ⟨p, 0, none⟩ a).setCell ⟨p, 1, none⟩ b).cell? ⟨f, 3, none⟩ = some v3 ∧ ((w.setCell ⟨p, 0, none⟩ a).setCell ⟨p, 1, none⟩ b).cell? ⟨f, 4, none⟩ = some v4 ∧ ((w.setCell ⟨p, 0, none⟩ a).setCell ⟨p, 1, none⟩ b).cell? ⟨f, 5, none⟩ = some v5 ∧ ((w.setCell ⟨p, 0, none⟩ a).setCell ⟨p, 1, none⟩ b).cell? ⟨f, 6, none⟩ = some v6 ∧
    ((w.setCell ⟨p, 0, none⟩ a).setCell ⟨p, 1, none⟩ b).frozen? ⟨q, 0, none⟩ = false ∧ ((w.setCell ⟨p, 0, none⟩ a).setCell ⟨p, 1, none⟩ b).frozen? ⟨q, 1, none⟩ = false ∧ ((w.setCell ⟨p, 0, none⟩ a).setCell ⟨p, 1, none⟩ b).frozen? ⟨r, 0, none⟩ = false ∧ ((w.setCell ⟨p, 0, none⟩ a).setCell ⟨p, 1, none⟩ b).frozen? ⟨r, 1, none⟩ = false := by
  have hc : ∀ i : Nat, ((w.setCell ⟨p, 0, none⟩ a).setCell ⟨p, 1, none⟩ b).cell? ⟨f, i, none⟩ = w.cell? ⟨f, i, none⟩ := fun i => by
    rw [World.cell?_setCell_far _ _ _ _ (by exact hpf), World.cell?_setCell_far _ _ _ _ (by exact hpf)]
  exact ⟨(hc 3).trans h3, (hc 4).trans h4, (hc 5).trans h5, (hc 6).trans h6, by simpa [go_sem] using f0, by simpa [go_sem] using f1, by simpa [go_sem] using f2, by simpa [go_sem] using f3⟩

set_option maxRecDepth 100000 in
set_option maxHeartbeats 32000000 in
/-- at, with one flow that is known there and then -/
theorem at_one (s : Int) (A : Option Addr) (b c : Nat) (x y t : Int) (w : World) (hF : Flo w b A c s) (hin : hasL allB x y = true) (ht : inB t 0 1073741823 = true) :
    Calls Try.prog 133 #[.slice (some ⟨b, 0, none⟩) 1 1, .agg #[.int .i64 x, .int .i64 y], .int .i64 t] w fun e w' => e = .returned (.tuple #[.agg #[.int .i64 s, .int .i64 s], .agg #[.int .i64 0, .int .i64 0], .bool true]) ∧ Below w.heap.size w w' := by
  obtain ⟨w0, hw0⟩ : ∃ W', ((w.alloc (.cells #[.int .i64 x, .int .i64 y] 39)).alloc (.cells #[.int .i64 0, .int .i64 0] 203)).alloc (.cells #[.int .i64 0, .int .i64 0] 203) = W' := ⟨_, rfl⟩
  obtain ⟨Z, hZ⟩ : ∃ Z, w.heap.size = Z := ⟨_, rfl⟩
  have b0 : Below w.heap.size w w0 := by rw [← hw0]; exact (((Below.refl _ _).alloc (Nat.le_refl _) _).alloc (by simp) _).alloc (by simp; omega) _
  have s0 : w0.heap.size = Z + 3 := by rw [← hw0, ← hZ]; simp
  have x0 : w0.cell? ⟨Z, 0, none⟩ = some (.int .i64 x) := by rw [← hw0, ← hZ]; simp [go_sem]
  have x1 : w0.cell? ⟨Z, 1, none⟩ = some (.int .i64 y) := by rw [← hw0, ← hZ]; simp [go_sem]
  have y0 : w0.cell? ⟨Z + 1, 0, none⟩ = some (.int .i64 0) := by rw [← hw0, ← hZ]; simp [go_sem]
  have y1 : w0.cell? ⟨Z + 1, 1, none⟩ = some (.int .i64 0) := by rw [← hw0, ← hZ]; simp [go_sem]
  have z0 : w0.cell? ⟨Z + 1 + 1, 0, none⟩ = some (.int .i64 0) := by rw [← hw0, ← hZ]; simp [go_sem]
  have z1 : w0.cell? ⟨Z + 1 + 1, 1, none⟩ = some (.int .i64 0) := by rw [← hw0, ← hZ]; simp [go_sem]
  have fy0 : w0.frozen? ⟨Z + 1, 0, none⟩ = false := by rw [← hw0, ← hZ]; simp [go_sem]
  have fy1 : w0.frozen? ⟨Z + 1, 1, none⟩ = false := by rw [← hw0, ← hZ]; simp [go_sem]
  have fz0 : w0.frozen? ⟨Z + 1 + 1, 0, none⟩ = false := by rw [← hw0, ← hZ]; simp [go_sem]
  have fz1 : w0.frozen? ⟨Z + 1 + 1, 1, none⟩ = false := by rw [← hw0, ← hZ]; simp [go_sem]
  obtain ⟨hb0, c0, c1, c2, c3, c4, c5, c6, hr⟩ := hF.below b0
  have HR := Lib.hid hr
  have HK := Lib.hid b0
  have HI := Lib.hid hin
  have HT := Lib.hid ht
  clear hF b0 hr hin ht
  go_enter Try.func133, Try.ntmps133
  go_upto_region 1 with fail
  (try rw [hw0]); (try rw [hZ])
  have HZ := Lib.hid hZ
  clear hw0 hZ
  go_wp2_with fail
  go_loopw [8, 13] (fun kb i wr => (kb = .bool false ∧ i = .int .i64 0 ∧ wr = w0) ∨ (kb = .bool true ∧ i = .int .i64 1 ∧ Below w.heap.size w wr ∧ Z + 3 ≤ wr.heap.size ∧ wr.cell? ⟨Z + 1, 0, none⟩ = some (.int .i64 s) ∧ wr.cell? ⟨Z + 1, 1, none⟩ = some (.int .i64 s) ∧ wr.cell? ⟨Z + 1 + 1, 0, none⟩ = some (.int .i64 0) ∧ wr.cell? ⟨Z + 1 + 1, 1, none⟩ = some (.int .i64 0) ∧ wr.frozen? ⟨Z + 1, 0, none⟩ = false ∧ wr.frozen? ⟨Z + 1, 1, none⟩ = false ∧ wr.frozen? ⟨Z + 1 + 1, 0, none⟩ = false ∧ wr.frozen? ⟨Z + 1 + 1, 1, none⟩ = false)) (fun _ i _ => 1 - (intOf i).toNat)
  case atStart => exact .inl ⟨rfl, rfl, rfl⟩
  case round =>
    rcases hrel with ⟨rfl, rfl, rfl⟩ | ⟨rfl, rfl, hbr, hzr, h2⟩
    · go_upto_region 4 with fail
      obtain ⟨wf, hwf⟩ : ∃ W', wr.alloc (.cells #[.int .i64 0, .int .i64 1073741824, .slice A 5 c, .int .i64 s, .int .i64 0, .int .i64 s, .int .i64 0] 163) = W' := ⟨_, rfl⟩
      have kf : Below wr.heap.size wr wf := by rw [← hwf]; exact (Below.refl _ _).alloc (Nat.le_refl _) _
      have sf : Z + 3 < wf.heap.size := by rw [← hwf, ← s0]; simp
      have v0 : wf.cell? ⟨Z + 3, 0, none⟩ = some (.int .i64 0) := by rw [← hwf, ← s0]; simp [go_sem]
      have v1 : wf.cell? ⟨Z + 3, 1, none⟩ = some (.int .i64 1073741824) := by rw [← hwf, ← s0]; simp [go_sem]
      have v2 : wf.cell? ⟨Z + 3, 2, none⟩ = some (.slice A 5 c) := by rw [← hwf, ← s0]; simp [go_sem]
      have v3 : wf.cell? ⟨Z + 3, 3, none⟩ = some (.int .i64 s) := by rw [← hwf, ← s0]; simp [go_sem]
      have v4 : wf.cell? ⟨Z + 3, 4, none⟩ = some (.int .i64 0) := by rw [← hwf, ← s0]; simp [go_sem]
      have v5 : wf.cell? ⟨Z + 3, 5, none⟩ = some (.int .i64 s) := by rw [← hwf, ← s0]; simp [go_sem]
      have v6 : wf.cell? ⟨Z + 3, 6, none⟩ = some (.int .i64 0) := by rw [← hwf, ← s0]; simp [go_sem]
      have x0 := (kf.cell (p := ⟨Z, 0, none⟩) (by show Z < _; omega)).trans x0
      have x1 := (kf.cell (p := ⟨Z, 1, none⟩) (by show Z < _; omega)).trans x1
      have y0 := (kf.cell (p := ⟨Z + 1, 0, none⟩) (by show Z + 1 < _; omega)).trans y0
      have y1 := (kf.cell (p := ⟨Z + 1, 1, none⟩) (by show Z + 1 < _; omega)).trans y1
      have z0 := (kf.cell (p := ⟨Z + 1 + 1, 0, none⟩) (by show Z + 1 + 1 < _; omega)).trans z0
      have z1 := (kf.cell (p := ⟨Z + 1 + 1, 1, none⟩) (by show Z + 1 + 1 < _; omega)).trans z1
      have fy0 := (kf.frozen (p := ⟨Z + 1, 0, none⟩) (by show Z + 1 < _; omega)).trans fy0
      have fy1 := (kf.frozen (p := ⟨Z + 1, 1, none⟩) (by show Z + 1 < _; omega)).trans fy1
      have fz0 := (kf.frozen (p := ⟨Z + 1 + 1, 0, none⟩) (by show Z + 1 + 1 < _; omega)).trans fz0
      have fz1 := (kf.frozen (p := ⟨Z + 1 + 1, 1, none⟩) (by show Z + 1 + 1 < _; omega)).trans fz1
      have HH := Lib.hid (has_gr (.slice A 5 c) allB x y wf (HR.out.below kf))
      have HKf := Lib.hid (HK.out.trans (kf.mono HK.out.size))
      clear kf
      rw [hwf]
      clear hwf
      go_wp2_with fail
      refine (within_dn _ _ _ _).mono ?_
      rintro e w1 ⟨rfl, rfl⟩
      rw [HT.out]
      go_wp2_with fail
      refine HH.out.mono ?_
      rintro e w2 ⟨rfl, hb2⟩
      rw [HI.out]
      have v0 := (hb2.cell (p := ⟨Z + 3, 0, none⟩) (by show Z + 3 < _; omega)).trans v0
      have v1 := (hb2.cell (p := ⟨Z + 3, 1, none⟩) (by show Z + 3 < _; omega)).trans v1
      have v2 := (hb2.cell (p := ⟨Z + 3, 2, none⟩) (by show Z + 3 < _; omega)).trans v2
      have v3 := (hb2.cell (p := ⟨Z + 3, 3, none⟩) (by show Z + 3 < _; omega)).trans v3
      have v4 := (hb2.cell (p := ⟨Z + 3, 4, none⟩) (by show Z + 3 < _; omega)).trans v4
      have v5 := (hb2.cell (p := ⟨Z + 3, 5, none⟩) (by show Z + 3 < _; omega)).trans v5
      have v6 := (hb2.cell (p := ⟨Z + 3, 6, none⟩) (by show Z + 3 < _; omega)).trans v6
      have y0 := (hb2.cell (p := ⟨Z + 1, 0, none⟩) (by show Z + 1 < _; omega)).trans y0
      have y1 := (hb2.cell (p := ⟨Z + 1, 1, none⟩) (by show Z + 1 < _; omega)).trans y1
      have z0 := (hb2.cell (p := ⟨Z + 1 + 1, 0, none⟩) (by show Z + 1 + 1 < _; omega)).trans z0
      have z1 := (hb2.cell (p := ⟨Z + 1 + 1, 1, none⟩) (by show Z + 1 + 1 < _; omega)).trans z1
      have fy0 := (hb2.frozen (p := ⟨Z + 1, 0, none⟩) (by show Z + 1 < _; omega)).trans fy0
      have fy1 := (hb2.frozen (p := ⟨Z + 1, 1, none⟩) (by show Z + 1 < _; omega)).trans fy1
      have fz0 := (hb2.frozen (p := ⟨Z + 1 + 1, 0, none⟩) (by show Z + 1 + 1 < _; omega)).trans fz0
      have fz1 := (hb2.frozen (p := ⟨Z + 1 + 1, 1, none⟩) (by show Z + 1 + 1 < _; omega)).trans fz1
      have s2 := Nat.lt_of_lt_of_le sf hb2.size
      have HK2 := Lib.hid (HKf.out.trans (hb2.mono HKf.out.size))
      clear hb2 x0 x1 sf
      have eZ : Z + 1 ≠ Z + 1 + 1 := by omega
      have h2 : Two w2 (Z + 1) (Z + 1 + 1) (.int .i64 0) (.int .i64 0) (.int .i64 0) (.int .i64 0) := ⟨y0, y1, z0, z1, fy0, fy1, fz0, fz1⟩
      have H4 := Lib.hid (Two.snd eZ (Two.fst eZ h2 (.int .i64 s) (.int .i64 s)) (.int .i64 0) (.int .i64 0))
      have g0 := And.intro v3 (And.intro v4 (And.intro v5 (And.intro v6 (And.intro fy0 (And.intro fy1 (And.intro fz0 fz1))))))
      have g1 := far2 (f := Z + 3) (by omega : Z + 1 ≠ Z + 3) v3 v4 v5 v6 fy0 fy1 fz0 fz1 (.int .i64 s) (.int .i64 s)
      have g2 := far2 (f := Z + 3) (by omega : Z + 1 + 1 ≠ Z + 3) g1.1 g1.2.1 g1.2.2.1 g1.2.2.2.1 g1.2.2.2.2.1 g1.2.2.2.2.2.1 g1.2.2.2.2.2.2.1 g1.2.2.2.2.2.2.2 (.int .i64 0) (.int .i64 0)
      have G0 := Lib.hid g0
      have G1 := Lib.hid g1
      have G2 := Lib.hid g2
      clear g0 g1 g2 h2 v0 v1 v2 c0 c1 c2 c3 c4 c5 c6
      go_upto_region 6 with fail
      go_region_held3 (fun W' => W'.cell? ⟨Z + 3, 3, none⟩ = some (.int .i64 s) ∧ W'.cell? ⟨Z + 3, 4, none⟩ = some (.int .i64 0) ∧ W'.cell? ⟨Z + 3, 5, none⟩ = some (.int .i64 s) ∧ W'.cell? ⟨Z + 3, 6, none⟩ = some (.int .i64 0) ∧ W'.frozen? ⟨Z + 1, 0, none⟩ = false ∧ W'.frozen? ⟨Z + 1, 1, none⟩ = false ∧ W'.frozen? ⟨Z + 1 + 1, 0, none⟩ = false ∧ W'.frozen? ⟨Z + 1 + 1, 1, none⟩ = false) (first | exact G0.out | exact G1.out | exact G2.out) (fail)
      rename_i hHeld
      clear hHeld
      clear v3 v4 v5 v6 fy0 fy1 fz0 fz1 y0 y1 z0 z1
      go_wp2_with fail
      go_roundw
      case rel =>
        have hz := HZ.out
        have hk := HK2.out
        refine .inr ⟨rfl, rfl, belowDrew ((((hk.setCell (p := ⟨Z + 1, 0, none⟩) (by show w.heap.size ≤ Z + 1; omega) _).setCell (p := ⟨Z + 1, 1, none⟩) (by show w.heap.size ≤ Z + 1; omega) _).setCell (p := ⟨Z + 1 + 1, 0, none⟩) (by show w.heap.size ≤ Z + 1 + 1; omega) _).setCell (p := ⟨Z + 1 + 1, 1, none⟩) (by show w.heap.size ≤ Z + 1 + 1; omega) _), ?_, H4.out⟩
        simp
        omega
      case measure => decide
    · clear x0 x1 c0 c1 c2 c3 c4 c5 c6 y0 y1 z0 z1 fy0 fy1 fz0 fz1 s0
      have e0 : Z + 1 ≠ Z + 1 + 1 := by omega
      have h2 : Two wr (Z + 1) (Z + 1 + 1) (.int .i64 s) (.int .i64 s) (.int .i64 0) (.int .i64 0) := h2
      have HBR := Lib.hid hbr
      clear hbr hzr
      have h3 := Two.fst e0 h2 (.int .i64 s) (.int .i64 s)
      have h4 := Two.snd e0 h3 (.int .i64 0) (.int .i64 0)
      have H2 := Lib.hid h2
      have H3 := Lib.hid h3
      have H4 := Lib.hid h4
      obtain ⟨y0, y1, z0, z1, fy0, fy1, fz0, fz1⟩ := h2
      clear h3 h4 hb0
      go_wp2_with fail
      go_region_held3 (fun W' => W'.cell? ⟨Z + 1, 0, none⟩ = some (.int .i64 s) ∧ W'.cell? ⟨Z + 1, 1, none⟩ = some (.int .i64 s) ∧ W'.cell? ⟨Z + 1 + 1, 0, none⟩ = some (.int .i64 0) ∧ W'.cell? ⟨Z + 1 + 1, 1, none⟩ = some (.int .i64 0) ∧ W'.frozen? ⟨Z + 1, 0, none⟩ = false ∧ W'.frozen? ⟨Z + 1, 1, none⟩ = false ∧ W'.frozen? ⟨Z + 1 + 1, 0, none⟩ = false ∧ W'.frozen? ⟨Z + 1 + 1, 1, none⟩ = false) (first | exact H2.out | exact H3.out | exact H4.out) (fail)
      rename_i hHeld
      clear hHeld
      obtain ⟨wz, hwz⟩ : ∃ W', ((((wr.setCell ⟨Z + 1, 0, none⟩ (.int .i64 s)).setCell ⟨Z + 1, 1, none⟩ (.int .i64 s)).setCell ⟨Z + 1 + 1, 0, none⟩ (.int .i64 0)).setCell ⟨Z + 1 + 1, 1, none⟩ (.int .i64 0)).drew = W' := ⟨_, rfl⟩
      have h5 : Two wz (Z + 1) (Z + 1 + 1) (.int .i64 s) (.int .i64 s) (.int .i64 0) (.int .i64 0) := by rw [← hwz]; exact H4.out
      have hk : Below w.heap.size w wz := by
        rw [← hwz]
        have hz := HZ.out
        exact belowDrew ((((HBR.out.setCell (p := ⟨Z + 1, 0, none⟩) (by show w.heap.size ≤ Z + 1; omega) _).setCell (p := ⟨Z + 1, 1, none⟩) (by show w.heap.size ≤ Z + 1; omega) _).setCell (p := ⟨Z + 1 + 1, 0, none⟩) (by show w.heap.size ≤ Z + 1 + 1; omega) _).setCell (p := ⟨Z + 1 + 1, 1, none⟩) (by show w.heap.size ≤ Z + 1 + 1; omega) _)
      rw [hwz]
      clear hwz H2 H3 H4 HBR y0 y1 z0 z1 fy0 fy1 fz0 fz1
      have HW := Lib.hid hk
      clear hk
      obtain ⟨q0, q1, q2, q3, q4, q5, q6, q7⟩ := h5
      go_wp2_with fail
      refine bodyPost_ret (v := .tuple #[.agg #[.int .i64 s, .int .i64 s], .agg #[.int .i64 0, .int .i64 0], .bool true]) (by simp [results, Try.results133, go_sem, q0, q1, q2, q3]) rfl ⟨rfl, HW.out⟩
end Go.Proofs.Ytnbdnnbeiohmgaa
