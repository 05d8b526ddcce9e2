/- grid's table.both. -/
import Derived.Test.YtnbdnnbeiohmgaaGrOthers
import Derived.Test.YtnbdnnbeiohmgaaGrGrowF
import Derived.Deep.Cut
import Derived.Deep.Light
import Derived.Deep.CutRange
import Derived.BigGuard
import Derived.Deep.RegionHeld3
namespace Go.Proofs.Ytnbdnnbeiohmgaa
open Go.RowKit Go.Shelf Go.Lib

theorem Lst.keepBlock {α : Type} {k : Nat} {enc : α → List Value} {w w' : World} {v : Value} {l : List α} (h : Lst k enc w v l) (hs : w.heap.size ≤ w'.heap.size) (hb : ∀ g, v.ownBlock = some g → 0 < l.length → w'.heap[g]? = w.heap[g]?) : Lst k enc w' v l := by
  obtain ⟨A, c, rfl, h1, h2, h3⟩ := h
  refine ⟨A, c, rfl, h1, h2, fun h0 => ?_⟩
  obtain ⟨b, off, rfl, hbl, hc⟩ := h3 h0
  exact ⟨b, off, rfl, by omega, fun j i x u hj hi => (World.cell?_of_block (a := ⟨b, off + j * k + i, none⟩) (hb b rfl h0)).trans (hc j i x u hj hi)⟩

/-- a slice's block is no part of the table -/
def Far (w : World) (T : Nat) (vs : Nat → Value) (v : Value) (l : List R3) : Prop := ∀ g, v.ownBlock = some g → 0 < l.length → g ≠ T ∧ g < w.heap.size ∧ ∀ i, i < 256 → (vs i).ownBlock ≠ some g

def goA (x y : R3) : Bool := decide (x.1 < y.1) || (x.1 == y.1 && decide (x.2.2 < y.2.2))
def meet (W H : Int) (x y : R3) (f : Nat → List S2) : Nat → List S2 := if x.1 = y.1 then addF W H x.1 (max x.2.1 y.2.1) (min x.2.2 y.2.2) f else f
def bothF (W H : Int) : Nat → List R3 → List R3 → (Nat → List S2) → (Nat → List S2)
  | n + 1, x :: a, y :: b, f => if goA x y then bothF W H n a (y :: b) (meet W H x y f) else bothF W H n (x :: a) b (meet W H x y f)
  | _, _, _, f => f
theorem bothF_nilA (W H : Int) (n : Nat) (b : List R3) (f : Nat → List S2) : bothF W H n [] b f = f := by cases n <;> rfl
theorem bothF_nilB (W H : Int) (n : Nat) (a : List R3) (f : Nat → List S2) : bothF W H n a [] f = f := by cases n <;> cases a <;> rfl
theorem meet_len (W H : Int) (x y : R3) (f : Nat → List S2) (i : Nat) : (meet W H x y f i).length ≤ (f i).length + 1 := by
  unfold meet
  split
  · exact addF_len _ _ _ _ _ _ _
  · omega

theorem bothF_stepA {W H : Int} {x y : R3} {al bl : List R3} {f : Nat → List S2} (h : goA x y = true) : bothF W H ((x :: al).length + (y :: bl).length) (x :: al) (y :: bl) f = bothF W H (al.length + (y :: bl).length) al (y :: bl) (meet W H x y f) := by
  rw [show (x :: al).length + (y :: bl).length = (al.length + (y :: bl).length) + 1 by simp only [List.length_cons]; omega, bothF, if_pos h]
theorem bothF_stepB {W H : Int} {x y : R3} {al bl : List R3} {f : Nat → List S2} (h : goA x y = false) : bothF W H ((x :: al).length + (y :: bl).length) (x :: al) (y :: bl) f = bothF W H ((x :: al).length + bl.length) (x :: al) bl (meet W H x y f) := by
  rw [show (x :: al).length + (y :: bl).length = ((x :: al).length + bl.length) + 1 by simp only [List.length_cons]; omega, bothF, if_neg (by rw [h]; exact Bool.false_ne_true)]
theorem Far.rest {w : World} {T : Nat} {vs : Nat → Value} {b o n c m d : Nat} {x : R3} {l : List R3} (h : Far w T vs (.slice (some ⟨b, o, none⟩) n c) (x :: l)) : Far w T vs (.slice (if c = 1 then some ⟨b, o, none⟩ else some ⟨b, o + 3, none⟩) m d) l := by
  intro g hg h0
  refine h g ?_ (by simp)
  split at hg <;> simpa [Value.ownBlock] using hg
theorem Untouched.far {w w' : World} {T : Nat} {vs vs' : Nat → Value} {v : Value} {l : List R3} (h : Untouched w w' T vs vs') (hs : w.heap.size ≤ w'.heap.size) (hf : Far w T vs v l) : Far w' T vs' v l ∧ ∀ g, v.ownBlock = some g → 0 < l.length → w'.heap[g]? = w.heap[g]? :=
  ⟨fun g hg h0 => ⟨(hf g hg h0).1, Nat.lt_of_lt_of_le (hf g hg h0).2.1 hs, (h g (hf g hg h0).2.1 (hf g hg h0).1 (hf g hg h0).2.2).2⟩, fun g hg h0 => (h g (hf g hg h0).2.1 (hf g hg h0).1 (hf g hg h0).2.2).1⟩

set_option maxRecDepth 100000 in
set_option maxHeartbeats 16000000 in
theorem both_gr (W H S : Int) (vL va vb : Value) (a b : List R3) (T : Nat) (vs : Nat → Value) (f : Nat → List S2) (w : World) (hW : 1 ≤ W ∧ W ≤ 256) (hH : 1 ≤ H ∧ H ≤ 256) (hT : Tab w T vs f) (ha : Runs w va a) (hb : Runs w vb b) (hfa : Far w T vs va a) (hfb : Far w T vs vb b)
    (hlen : ∀ i, (f i).length + (a.length + b.length) ≤ 1000000) :
    Calls Try.prog 67 #[.pointer (some ⟨T, 0, none⟩), .agg #[.int .i64 W, .int .i64 H, .int .i64 S, vL], va, vb] w fun e w' =>
      e = .returned (.tuple #[]) ∧ (∃ vs', Tab w' T vs' (bothF W H (a.length + b.length) a b f)) ∧ Below T w w' := by
  have hTl := hT.lt
  have b1 : Below w.heap.size w (w.alloc (.cells #[.int .i64 W, .int .i64 H, .int .i64 S, vL] 24)) := (Below.refl w.heap.size w).alloc (Nat.le_refl _) _
  have hT1 := hT.below b1
  have ha1 := ha.below b1
  have hb1 := hb.below b1
  have hB1 : ∀ i, i < 256 → (vs i).ownBlock ≠ some w.heap.size := fun i hi e => by have := (ownBlock_lt (hT.own i hi) e).2; omega
  have hfa1 : Far (w.alloc (.cells #[.int .i64 W, .int .i64 H, .int .i64 S, vL] 24)) T vs va a := fun g hg h0 => ⟨(hfa g hg h0).1, by have := (hfa g hg h0).2.1; simp; omega, (hfa g hg h0).2.2⟩
  have hfb1 : Far (w.alloc (.cells #[.int .i64 W, .int .i64 H, .int .i64 S, vL] 24)) T vs vb b := fun g hg h0 => ⟨(hfb g hg h0).1, by have := (hfb g hg h0).2.1; simp; omega, (hfb g hg h0).2.2⟩
  obtain ⟨Aa, ca, ea, -⟩ := (show Runs w va a from ha)
  obtain ⟨Ab, cb, eb, -⟩ := (show Runs w vb b from hb)
  clear ha hb hfa hfb hT
  go_enter Try.func67, Try.ntmps67
  go_wp2_with fail
  have c0 : (w.alloc (.cells #[.int .i64 W, .int .i64 H, .int .i64 S, vL] 24)).cell? ⟨w.heap.size, 0, none⟩ = some (.int .i64 W) := by simp [go_sem]
  have c1 : (w.alloc (.cells #[.int .i64 W, .int .i64 H, .int .i64 S, vL] 24)).cell? ⟨w.heap.size, 1, none⟩ = some (.int .i64 H) := by simp [go_sem]
  have c2 : (w.alloc (.cells #[.int .i64 W, .int .i64 H, .int .i64 S, vL] 24)).cell? ⟨w.heap.size, 2, none⟩ = some (.int .i64 S) := by simp [go_sem]
  have c3 : (w.alloc (.cells #[.int .i64 W, .int .i64 H, .int .i64 S, vL] 24)).cell? ⟨w.heap.size, 3, none⟩ = some vL := by simp [go_sem]
  have bT : Below T w (w.alloc (.cells #[.int .i64 W, .int .i64 H, .int .i64 S, vL] 24)) := (Below.refl T w).alloc (by omega) _
  have z1 : w.heap.size < (w.alloc (.cells #[.int .i64 W, .int .i64 H, .int .i64 S, vL] 24)).heap.size := by simp
  obtain ⟨w1, hw1⟩ : ∃ w1, w.alloc (.cells #[.int .i64 W, .int .i64 H, .int .i64 S, vL] 24) = w1 := ⟨_, rfl⟩
  rw [hw1] at b1 hT1 ha1 hb1 hfa1 hfb1 c0 c1 c2 c3 bT z1 ⊢
  clear hw1 b1
  obtain ⟨B, hB⟩ : ∃ B, w.heap.size = B := ⟨_, rfl⟩
  rw [hB] at hB1 c0 c1 c2 c3 z1 hTl ⊢
  obtain ⟨fE, hfE⟩ : ∃ q, bothF W H (a.length + b.length) a b f = q := ⟨_, rfl⟩
  have HE := Lib.hid hfE
  clear hfE
  subst ea eb
  obtain ⟨va, hva⟩ : ∃ va : Value, va = .slice Aa a.length ca := ⟨_, rfl⟩
  obtain ⟨vb, hvb⟩ : ∃ vb : Value, vb = .slice Ab b.length cb := ⟨_, rfl⟩
  rw [← hva] at ha1 hfa1 ⊢
  rw [← hvb] at hb1 hfb1 ⊢
  clear hva hvb
  go_loopw [2, 3] (fun xa xb wr => ∃ (al bl : List R3) (vs : Nat → Value) (fc : Nat → List S2), Runs wr xa al ∧ Runs wr xb bl ∧ Tab wr T vs fc ∧ Far wr T vs xa al ∧ Far wr T vs xb bl ∧ (∀ i, i < 256 → (vs i).ownBlock ≠ some B) ∧ bothF W H (al.length + bl.length) al bl fc = fE ∧ (∀ i, (fc i).length + (al.length + bl.length) ≤ 1000000) ∧
      wr.cell? ⟨B, 0, none⟩ = some (.int .i64 W) ∧ wr.cell? ⟨B, 1, none⟩ = some (.int .i64 H) ∧ wr.cell? ⟨B, 2, none⟩ = some (.int .i64 S) ∧ wr.cell? ⟨B, 3, none⟩ = some vL ∧ B < wr.heap.size ∧ Below T w wr)
    (fun xa xb _ => (match xa with | .slice _ n _ => n | _ => 0) + (match xb with | .slice _ n _ => n | _ => 0))
  case atStart => exact ⟨a, b, vs, f, ha1, hb1, hT1, hfa1, hfb1, hB1, HE.out, hlen, c0, c1, c2, c3, z1, bT⟩
  case round =>
    obtain ⟨al, bl, vs2, fc, hra, hrb, hTc, hfa, hfb, hvB, hrun, hfl, d0, d1, d2, d3, hBl, hbt⟩ := hrel
    clear ha1 hb1 hT1 hfa1 hfb1 hB1 hlen c0 c1 c2 c3 z1 bT
    have HRn := Lib.hid hrun
    have HFl := Lib.hid hfl
    have HVB := Lib.hid hvB
    clear hrun hfl hvB
    cases al with
    | nil =>
      obtain ⟨A4, c4, rfl, -⟩ := (show Runs wr u2 [] from hra)
      have hfe : fc = fE := by rw [← HRn.out, bothF_nilA]
      subst hfe
      go_wp2_with fail
      go_end0
      exact ⟨rfl, ⟨vs2, by rw [HE.out]; exact hTc⟩, hbt⟩
    | cons x al =>
      cases bl with
      | nil =>
        obtain ⟨A4, c4, rfl, -⟩ := (show Runs wr u2 (x :: al) from hra)
        obtain ⟨A5, c5, rfl, -⟩ := (show Runs wr u3 [] from hrb)
        have hfe : fc = fE := by rw [← HRn.out, bothF_nilB]
        subst hfe
        go_wp2_with fail
        go_end0
        exact ⟨rfl, ⟨vs2, by rw [HE.out]; exact hTc⟩, hbt⟩
      | cons y bl =>
        obtain ⟨y1, f1, t1⟩ := x
        obtain ⟨y2, f2, t2⟩ := y
        obtain ⟨A4, c4, rfl, -, -, h4⟩ := (show Runs wr u2 ((y1, f1, t1) :: al) from hra)
        obtain ⟨b4, o4, rfl, hl4, hc4⟩ := h4 (by simp)
        obtain ⟨A5, c5, rfl, -, -, h5⟩ := (show Runs wr u3 ((y2, f2, t2) :: bl) from hrb)
        obtain ⟨b5, o5, rfl, hl5, hc5⟩ := h5 (by simp)
        have m0 := hc4 0 0 _ _ rfl rfl
        have m1 := hc4 0 1 _ _ rfl rfl
        have m2 := hc4 0 2 _ _ rfl rfl
        have q0 := hc5 0 0 _ _ rfl rfl
        have q1 := hc5 0 1 _ _ rfl rfl
        have q2 := hc5 0 2 _ _ rfl rfl
        simp only [Nat.zero_mul, Nat.add_zero] at m0 m1 m2 q0 q1 q2
        clear hc4 hc5 h4 h5
        go_upto_region 2 with fail
        have n4 : b4 < wr.heap.size := hl4
        have n5 : b5 < wr.heap.size := hl5
        have nb4 := World.new_ne wr ⟨b4, o4, none⟩ m0
        have nb5 := World.new_ne wr ⟨b5, o5, none⟩ q0
        go_cut [2, 3, 8, 9] from 10 to 66 (fun sa sb p q wx => sa = .slice (some ⟨b4, o4, none⟩) (al.length + 1) c4 ∧ sb = .slice (some ⟨b5, o5, none⟩) (bl.length + 1) c5 ∧ ∃ X1 X2, p = .pointer (some ⟨X1, 0, none⟩) ∧ q = .pointer (some ⟨X2, 0, none⟩) ∧
          wr.heap.size ≤ X1 ∧ wr.heap.size ≤ X2 ∧ X1 < wx.heap.size ∧ X2 < wx.heap.size ∧ Below wr.heap.size wr wx ∧ wx.cell? ⟨X1, 0, none⟩ = some (.int .i64 y1) ∧ wx.cell? ⟨X1, 1, none⟩ = some (.int .i64 f1) ∧ wx.cell? ⟨X1, 2, none⟩ = some (.int .i64 t1) ∧
          wx.cell? ⟨X2, 0, none⟩ = some (.int .i64 y2) ∧ wx.cell? ⟨X2, 1, none⟩ = some (.int .i64 f2) ∧ wx.cell? ⟨X2, 2, none⟩ = some (.int .i64 t2))
        case first =>
          go_region_held3 (fun W' => W'.cell? ⟨b4, o4, none⟩ = some (.int .i64 y1) ∧ W'.cell? ⟨b4, o4 + 1, none⟩ = some (.int .i64 f1) ∧ W'.cell? ⟨b4, o4 + 2, none⟩ = some (.int .i64 t1) ∧ W'.cell? ⟨b5, o5, none⟩ = some (.int .i64 y2) ∧ W'.cell? ⟨b5, o5 + 1, none⟩ = some (.int .i64 f2) ∧ W'.cell? ⟨b5, o5 + 2, none⟩ = some (.int .i64 t2)) (first | exact ⟨m0, m1, m2, q0, q1, q2⟩ | go_keep | (simp [go_sem, m0, m1, m2, q0, q1, q2, n4, n5]; done)) (fail)
          all_goals
            go_wp2_with fail
            go_meet
            go_light
          · exact ⟨rfl, rfl, wr.heap.size, wr.heap.size + 1, rfl, rfl, by omega, by omega, by simp <;> omega, by simp <;> omega, (by first | exact ((Below.refl _ _).alloc (Nat.le_refl _) _).alloc (by simp) _ | exact belowDrew (((Below.refl _ _).alloc (Nat.le_refl _) _).alloc (by simp) _) | exact ((Below.refl wr.heap.size wr.drew).alloc (Nat.le_refl _) _).alloc (by simp) _), by simp [go_sem], by simp [go_sem], by simp [go_sem], by simp [go_sem], by simp [go_sem], by simp [go_sem]⟩
          · exact ⟨rfl, rfl, wr.heap.size + 1, wr.heap.size, rfl, rfl, by omega, by omega, by simp <;> omega, by simp <;> omega, (by first | exact ((Below.refl _ _).alloc (Nat.le_refl _) _).alloc (by simp) _ | exact belowDrew (((Below.refl _ _).alloc (Nat.le_refl _) _).alloc (by simp) _) | exact ((Below.refl wr.heap.size wr.drew).alloc (Nat.le_refl _) _).alloc (by simp) _), by simp [go_sem], by simp [go_sem], by simp [go_sem], by simp [go_sem], by simp [go_sem], by simp [go_sem]⟩
        case rest =>
          obtain ⟨rfl, rfl, X1, X2, rfl, rfl, hX1, hX2, hX1l, hX2l, hbx, x0, x1, x2, z0, z1, z2⟩ := hcut
          have hTl2 := hTc.lt
          have hT3 := hTc.below hbx
          have hra3 := hra.below hbx
          have hrb3 := hrb.below hbx
          have hfa3 : Far wc T vs2 (.slice (some ⟨b4, o4, none⟩) (al.length + 1) c4) ((y1, f1, t1) :: al) := fun g hg h0 => ⟨(hfa g hg h0).1, Nat.lt_of_lt_of_le (hfa g hg h0).2.1 hbx.size, (hfa g hg h0).2.2⟩
          have hfb3 : Far wc T vs2 (.slice (some ⟨b5, o5, none⟩) (bl.length + 1) c5) ((y2, f2, t2) :: bl) := fun g hg h0 => ⟨(hfb g hg h0).1, Nat.lt_of_lt_of_le (hfb g hg h0).2.1 hbx.size, (hfb g hg h0).2.2⟩
          have d0 := (hbx.cell (p := ⟨B, 0, none⟩) hBl).trans d0
          have d1 := (hbx.cell (p := ⟨B, 1, none⟩) hBl).trans d1
          have d2 := (hbx.cell (p := ⟨B, 2, none⟩) hBl).trans d2
          have d3 := (hbx.cell (p := ⟨B, 3, none⟩) hBl).trans d3
          have hBl3 := Nat.lt_of_lt_of_le hBl hbx.size
          have hbt3 := hbt.trans (hbx.mono (by omega))
          have hv1 : ∀ i, i < 256 → (vs2 i).ownBlock ≠ some X1 := fun i hi e => by have := (ownBlock_lt (hTc.own i hi) e).2; omega
          have hv2 : ∀ i, i < 256 → (vs2 i).ownBlock ≠ some X2 := fun i hi e => by have := (ownBlock_lt (hTc.own i hi) e).2; omega
          have HV1 := Lib.hid hv1
          have HV2 := Lib.hid hv2
          clear hv1 hv2 hTc hra hrb hfa hfb m0 m1 m2 q0 q1 q2 nb4 nb5 hbt
          by_cases hyy : y1 = y2
          · subst hyy
            have hadd := add_gr W H S y1 (max f1 f2) (min t1 t2) vL T vs2 fc wc hW hH hT3 (fun i _ => by have := HFl.out i; omega)
            have HA := Lib.hid hadd
            clear hadd
            obtain ⟨mf, hmf⟩ : ∃ q, max f1 f2 = q := ⟨_, rfl⟩
            obtain ⟨mt, hmt⟩ : ∃ q, min t1 t2 = q := ⟨_, rfl⟩
            rw [hmf, hmt] at HA
            have hmeet : meet W H (y1, f1, t1) (y1, f2, t2) fc = addF W H y1 mf mt fc := by simp [meet, hmf, hmt]
            have HM := Lib.hid hmeet
            clear hmeet
            go_wp2_with fail
            refine HA.out.mono ?_
            rintro e w4 ⟨rfl, ⟨vs3, hT4, hun⟩, hb4⟩
            have hwc := Lib.hid hun
            obtain ⟨ux1, -⟩ := hun X1 hX1l (by omega) HV1.out
            obtain ⟨ux2, -⟩ := hun X2 hX2l (by omega) HV2.out
            have x0 := (World.cell?_of_block (a := ⟨X1, 0, none⟩) ux1).trans x0
            have x1 := (World.cell?_of_block (a := ⟨X1, 1, none⟩) ux1).trans x1
            have x2 := (World.cell?_of_block (a := ⟨X1, 2, none⟩) ux1).trans x2
            have z0 := (World.cell?_of_block (a := ⟨X2, 0, none⟩) ux2).trans z0
            have z1 := (World.cell?_of_block (a := ⟨X2, 1, none⟩) ux2).trans z1
            have z2 := (World.cell?_of_block (a := ⟨X2, 2, none⟩) ux2).trans z2
            obtain ⟨hfa4, ka⟩ := hun.far hb4.size hfa3
            obtain ⟨hfb4, kb⟩ := hun.far hb4.size hfb3
            have hra4 := hra3.keepBlock hb4.size ka
            have hrb4 := hrb3.keepBlock hb4.size kb
            obtain ⟨uB, vB⟩ := hun B hBl3 (by omega) HVB.out
            have d0 := (World.cell?_of_block (a := ⟨B, 0, none⟩) uB).trans d0
            have d1 := (World.cell?_of_block (a := ⟨B, 1, none⟩) uB).trans d1
            have d2 := (World.cell?_of_block (a := ⟨B, 2, none⟩) uB).trans d2
            have d3 := (World.cell?_of_block (a := ⟨B, 3, none⟩) uB).trans d3
            have hBl4 := Nat.lt_of_lt_of_le hBl3 hb4.size
            have hbt4 := hbt3.trans hb4
            have VB := Lib.hid vB
            clear hwc hun ka kb hra3 hrb3 hfa3 hfb3 hT3 hbx vB HA
            have hirr : (y1 < y1) = False := by simp
            by_cases htt : t1 < t2
            · have hga : goA (y1, f1, t1) (y1, f2, t2) = true := by simp [goA, htt]
              have HG := Lib.hid hga
              clear hga
              go_wp2_with fail
              go_roundw
              case rel => exact ⟨al, (y1, f2, t2) :: bl, vs3, _, Runs.rest hra4, hrb4, hT4, hfa4.rest, hfb4, VB.out, by rw [← HRn.out, bothF_stepA HG.out, HM.out], fun i => by have := HFl.out i; have := addF_len W H y1 mf mt fc i; simp only [List.length_cons] at *; omega, d0, d1, d2, d3, hBl4, hbt4⟩
              case measure => simp
            · have htt' : t2 ≤ t1 := by omega
              have hga : goA (y1, f1, t1) (y1, f2, t2) = false := by simp [goA, htt]
              have HG := Lib.hid hga
              clear hga
              go_wp2_with fail
              go_roundw
              case rel => exact ⟨(y1, f1, t1) :: al, bl, vs3, _, hra4, Runs.rest hrb4, hT4, hfa4, hfb4.rest, VB.out, by rw [← HRn.out, bothF_stepB HG.out, HM.out], fun i => by have := HFl.out i; have := addF_len W H y1 mf mt fc i; simp only [List.length_cons] at *; omega, d0, d1, d2, d3, hBl4, hbt4⟩
              case measure => simp
          · have hyy' : (y1 == y2) = false := by simpa using hyy
            have hmeet : meet W H (y1, f1, t1) (y2, f2, t2) fc = fc := by simp [meet, hyy]
            have HM := Lib.hid hmeet
            clear hmeet
            by_cases hlt : y1 < y2
            · have hga : goA (y1, f1, t1) (y2, f2, t2) = true := by simp [goA, hlt]
              have HG := Lib.hid hga
              clear hga
              go_wp2_with fail
              go_roundw
              case rel => exact ⟨al, (y2, f2, t2) :: bl, vs2, _, Runs.rest hra3, hrb3, hT3, hfa3.rest, hfb3, HVB.out, by rw [← HRn.out, bothF_stepA HG.out, HM.out], fun i => by have := HFl.out i; simp only [List.length_cons] at this ⊢; omega, d0, d1, d2, d3, hBl3, hbt3⟩
              case measure => simp
            · have hga : goA (y1, f1, t1) (y2, f2, t2) = false := by simp [goA, hlt, hyy]
              have HG := Lib.hid hga
              clear hga
              have hlt' : y2 ≤ y1 := by omega
              go_wp2_with fail
              go_roundw
              case rel => exact ⟨(y1, f1, t1) :: al, bl, vs2, _, hra3, Runs.rest hrb3, hT3, hfa3, hfb3.rest, HVB.out, by rw [← HRn.out, bothF_stepB HG.out, HM.out], fun i => by have := HFl.out i; simp only [List.length_cons] at this ⊢; omega, d0, d1, d2, d3, hBl3, hbt3⟩
              case measure => simp
end Go.Proofs.Ytnbdnnbeiohmgaa
