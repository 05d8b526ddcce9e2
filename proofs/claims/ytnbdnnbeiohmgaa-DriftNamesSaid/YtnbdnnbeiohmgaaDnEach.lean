/- drift: each. -/
import Derived.Test.YtnbdnnbeiohmgaaDnP
import Derived.Laws.EntriesVeiled
namespace Go.Proofs.Ytnbdnnbeiohmgaa
open Go.RowKit Go.Shelf Go.Lib
attribute [local go_sem] Oper.semAt_some

/-- a region that was made, or nothing yet -/
def Part (w : World) (d : Bool) (s : Value) (l : List R3) : Prop := ∃ A n c, s = .slice A n c ∧ (d = true → Runs w s l)
theorem cell3 {w : World} {Z : Nat} {s0 s1 s2 : Value} {t : TypeId} {fr : Nat × Nat} (h : w.heap[Z]? = some (.cells #[s0, s1, s2] t fr)) (i : Nat) (u : Value) (hc : w.cell? ⟨Z, i, none⟩ = some u) : u = s0 ∨ u = s1 ∨ u = s2 := by
  have hc' : (#[s0, s1, s2] : Array Value)[i]? = some u := by simpa [World.cell?, h] using hc
  match i, hc' with
  | 0, h => exact .inl (by simpa using h.symm)
  | 1, h => exact .inr (.inl (by simpa using h.symm))
  | 2, h => exact .inr (.inr (by simpa using h.symm))
  | i + 3, h => simp at h
/-- a region does not lie in a box of three slices -/
theorem Part.set {w : World} {Z i : Nat} {d : Bool} {s v : Value} {l : List R3} {A0 A1 A2 : Option Addr} {n0 n1 n2 c0 c1 c2 : Nat} {t : TypeId} {fr : Nat × Nat} (h : Part w d s l) (hz : w.heap[Z]? = some (.cells #[.slice A0 n0 c0, .slice A1 n1 c1, .slice A2 n2 c2] t fr)) :
    Part (w.setCell ⟨Z, i, none⟩ v) d s l := by
  obtain ⟨A, n, c, rfl, h⟩ := h
  refine ⟨A, n, c, rfl, fun hd => ?_⟩
  have hr := h hd
  obtain ⟨A', c', e, h1, h2, h3⟩ := id hr
  obtain ⟨rfl, rfl, rfl⟩ : A = A' ∧ n = l.length ∧ c = c' := by simpa using e
  rcases Nat.eq_zero_or_pos l.length with h0 | h0
  · exact ⟨A, c, rfl, h1, h2, fun k => by omega⟩
  · refine ⟨A, c, rfl, h1, h2, fun _ => ?_⟩
    obtain ⟨b, off, rfl, hb, hc⟩ := h3 h0
    have hne : Z ≠ b := fun e => by
      subst e
      obtain ⟨x, hx⟩ : ∃ x, l[0]? = some x := ⟨_, List.getElem?_eq_getElem h0⟩
      have k := hc 0 0 x _ hx rfl
      rcases cell3 hz _ _ k with e | e | e <;> simp at e
    exact ⟨b, off, rfl, by simpa using hb, fun j i' x u hx hu => (World.cell?_setCell_far _ _ _ _ (by exact hne)).trans (hc j i' x u hx hu)⟩
theorem Part.below {w w' : World} {d : Bool} {s : Value} {l : List R3} (h : Part w d s l) (hb : Below w.heap.size w w') : Part w' d s l := by
  obtain ⟨A, n, c, rfl, h⟩ := h
  exact ⟨A, n, c, rfl, fun hd => (h hd).below hb⟩

set_option maxRecDepth 100000 in
set_option maxHeartbeats 8000000 in
theorem each_dn (g : Nat) (cb : Array Value) (ls : Nat → List R3) (w : World) (eg : ∀ args w, (callFunc g args).run Try.prog w = .ok (.enter g args) w)
    (hp : ∀ k : Nat, k < 3 → ∀ W : World, Below w.heap.size w W → Calls Try.prog g (#[.int .i64 k] ++ cb) W fun e w' => (∃ A n c, e = .returned (.tuple #[.slice A n c, .int .i64 0]) ∧ Runs w' (.slice A n c) (ls k)) ∧ Below W.heap.size W w') :
    Calls Try.prog 143 #[.func (.func g) #[] cb] w fun e w' => (∃ A0 A1 A2 n0 n1 n2 c0 c1 c2, e = .returned (.tuple #[.agg #[.slice A0 n0 c0, .slice A1 n1 c1, .slice A2 n2 c2], .int .i64 0]) ∧ Runs w' (.slice A0 n0 c0) (ls 0) ∧ Runs w' (.slice A1 n1 c1) (ls 1) ∧ Runs w' (.slice A2 n2 c2) (ls 2)) ∧ Below w.heap.size w w' := by
  obtain ⟨Z, hZ⟩ : ∃ Z, w.heap.size = Z := ⟨_, rfl⟩
  obtain ⟨w0, hw0⟩ : ∃ W', w.alloc (.cells #[.slice none 0 0, .slice none 0 0, .slice none 0 0] 208) = W' := ⟨_, rfl⟩
  have b0 : Below w.heap.size w w0 := by rw [← hw0]; exact (Below.refl _ _).alloc (Nat.le_refl _) _
  have z0 : w0.heap[Z]? = some (.cells #[.slice none 0 0, .slice none 0 0, .slice none 0 0] 208 (0, 0)) := by rw [← hw0, ← hZ]; exact heap_alloc_new w _
  have HP := Lib.hid hp
  clear hp
  go_enter Try.func143, Try.ntmps143
  go_upto_region 1 with fail
  (try rw [hw0]); (try rw [hZ])
  have HZ := Lib.hid hZ
  clear hw0 hZ
  go_wp2_with fail
  go_loopw [5] (fun i wr => ∃ k : Nat, k ≤ 3 ∧ i = .int .i64 k ∧ ∃ s0 s1 s2 : Value, wr.heap[Z]? = some (.cells #[s0, s1, s2] 208 (0, 0)) ∧ Part wr (decide (0 < k)) s0 (ls 0) ∧ Part wr (decide (1 < k)) s1 (ls 1) ∧ Part wr (decide (2 < k)) s2 (ls 2) ∧ Below w.heap.size w wr) (fun i _ => 3 - (intOf i).toNat)
  case atStart => exact ⟨0, by omega, rfl, _, _, _, z0, ⟨_, _, _, rfl, fun h => by simp at h⟩, ⟨_, _, _, rfl, fun h => by simp at h⟩, ⟨_, _, _, rfl, fun h => by simp at h⟩, b0⟩
  case round =>
    obtain ⟨k, hk, rfl, s0, s1, s2, hz, p0, p1, p2, hbr⟩ := hrel
    have q0 := p0
    have q1 := p1
    have q2 := p2
    obtain ⟨A0, n0, c0, rfl, -⟩ := q0
    obtain ⟨A1, n1, c1, rfl, -⟩ := q1
    obtain ⟨A2, n2, c2, rfl, -⟩ := q2
    have hzl : Z < wr.heap.size := (Array.getElem?_eq_some_iff.1 hz).1
    obtain rfl | rfl | rfl | rfl : k = 0 ∨ k = 1 ∨ k = 2 ∨ k = 3 := by omega
    · have HC := Lib.hid (HP.out 0 (by omega) wr hbr)
      have HR := Lib.hid hbr
      have Hp0 := Lib.hid p0
      have Hp1 := Lib.hid p1
      have Hp2 := Lib.hid p2
      have Hz := Lib.hid hz
      clear hbr p0 p1 p2 hz z0 b0
      go_wp2_with fail
      refine HC.out.mono ?_
      rintro e w1 ⟨⟨C, m, cc, rfl, hv⟩, hb1⟩
      have hz1 : w1.heap[Z]? = some (.cells #[.slice A0 n0 c0, .slice A1 n1 c1, .slice A2 n2 c2] 208 (0, 0)) := (hb1.block Z hzl).trans Hz.out
      have r0 := Hp0.out.below hb1
      have r1 := Hp1.out.below hb1
      have r2 := Hp2.out.below hb1
      have hb2 := HR.out.trans (hb1.mono HR.out.size)
      have e0 : w1.cell? ⟨Z, 0, none⟩ = some (.slice A0 n0 c0) := by simp [World.cell?, hz1]
      have e1 : w1.cell? ⟨Z, 1, none⟩ = some (.slice A1 n1 c1) := by simp [World.cell?, hz1]
      have e2 : w1.cell? ⟨Z, 2, none⟩ = some (.slice A2 n2 c2) := by simp [World.cell?, hz1]
      have f0 : w1.frozen? ⟨Z, 0, none⟩ = false := by simp [World.frozen?, hz1]
      have hpv : Part w1 (decide (0 < 1)) (.slice C m cc) (ls 0) := ⟨C, m, cc, rfl, fun _ => hv⟩
      have HX := Lib.hid hz1
      have HY := Lib.hid hb2
      have HU := Lib.hid (And.intro r0 (And.intro r1 (And.intro r2 hpv)))
      clear hb1 hb2 hv r0 r1 r2 hpv hz1 HC
      go_wp2_with fail
      go_roundw
      case rel =>
        obtain ⟨r0, r1, r2, hpv⟩ := HU.out
        have hz2 := heap_setCell_same w1 Z 0 _ _ (.slice C m cc) HX.out
        refine ⟨1, by omega, rfl, .slice C m cc, .slice A1 n1 c1, .slice A2 n2 c2, ?_, (hpv.set HX.out), r1.set HX.out, r2.set HX.out, HY.out.setCell (by show _ ≤ Z; have := HZ.out; omega) _⟩
        simpa using hz2
      case measure => decide
    · have HC := Lib.hid (HP.out 1 (by omega) wr hbr)
      have HR := Lib.hid hbr
      have Hp0 := Lib.hid p0
      have Hp1 := Lib.hid p1
      have Hp2 := Lib.hid p2
      have Hz := Lib.hid hz
      clear hbr p0 p1 p2 hz z0 b0
      go_wp2_with fail
      refine HC.out.mono ?_
      rintro e w1 ⟨⟨C, m, cc, rfl, hv⟩, hb1⟩
      have hz1 : w1.heap[Z]? = some (.cells #[.slice A0 n0 c0, .slice A1 n1 c1, .slice A2 n2 c2] 208 (0, 0)) := (hb1.block Z hzl).trans Hz.out
      have r0 := Hp0.out.below hb1
      have r1 := Hp1.out.below hb1
      have r2 := Hp2.out.below hb1
      have hb2 := HR.out.trans (hb1.mono HR.out.size)
      have e0 : w1.cell? ⟨Z, 0, none⟩ = some (.slice A0 n0 c0) := by simp [World.cell?, hz1]
      have e1 : w1.cell? ⟨Z, 1, none⟩ = some (.slice A1 n1 c1) := by simp [World.cell?, hz1]
      have e2 : w1.cell? ⟨Z, 2, none⟩ = some (.slice A2 n2 c2) := by simp [World.cell?, hz1]
      have f1 : w1.frozen? ⟨Z, 1, none⟩ = false := by simp [World.frozen?, hz1]
      have hpv : Part w1 (decide (1 < 2)) (.slice C m cc) (ls 1) := ⟨C, m, cc, rfl, fun _ => hv⟩
      have HX := Lib.hid hz1
      have HY := Lib.hid hb2
      have HU := Lib.hid (And.intro r0 (And.intro r1 (And.intro r2 hpv)))
      clear hb1 hb2 hv r0 r1 r2 hpv hz1 HC
      go_wp2_with fail
      go_roundw
      case rel =>
        obtain ⟨r0, r1, r2, hpv⟩ := HU.out
        have hz2 := heap_setCell_same w1 Z 1 _ _ (.slice C m cc) HX.out
        refine ⟨2, by omega, rfl, .slice A0 n0 c0, .slice C m cc, .slice A2 n2 c2, ?_, r0.set HX.out, (hpv.set HX.out), r2.set HX.out, HY.out.setCell (by show _ ≤ Z; have := HZ.out; omega) _⟩
        simpa using hz2
      case measure => decide
    · have HC := Lib.hid (HP.out 2 (by omega) wr hbr)
      have HR := Lib.hid hbr
      have Hp0 := Lib.hid p0
      have Hp1 := Lib.hid p1
      have Hp2 := Lib.hid p2
      have Hz := Lib.hid hz
      clear hbr p0 p1 p2 hz z0 b0
      go_wp2_with fail
      refine HC.out.mono ?_
      rintro e w1 ⟨⟨C, m, cc, rfl, hv⟩, hb1⟩
      have hz1 : w1.heap[Z]? = some (.cells #[.slice A0 n0 c0, .slice A1 n1 c1, .slice A2 n2 c2] 208 (0, 0)) := (hb1.block Z hzl).trans Hz.out
      have r0 := Hp0.out.below hb1
      have r1 := Hp1.out.below hb1
      have r2 := Hp2.out.below hb1
      have hb2 := HR.out.trans (hb1.mono HR.out.size)
      have e0 : w1.cell? ⟨Z, 0, none⟩ = some (.slice A0 n0 c0) := by simp [World.cell?, hz1]
      have e1 : w1.cell? ⟨Z, 1, none⟩ = some (.slice A1 n1 c1) := by simp [World.cell?, hz1]
      have e2 : w1.cell? ⟨Z, 2, none⟩ = some (.slice A2 n2 c2) := by simp [World.cell?, hz1]
      have f2 : w1.frozen? ⟨Z, 2, none⟩ = false := by simp [World.frozen?, hz1]
      have hpv : Part w1 (decide (2 < 3)) (.slice C m cc) (ls 2) := ⟨C, m, cc, rfl, fun _ => hv⟩
      have HX := Lib.hid hz1
      have HY := Lib.hid hb2
      have HU := Lib.hid (And.intro r0 (And.intro r1 (And.intro r2 hpv)))
      clear hb1 hb2 hv r0 r1 r2 hpv hz1 HC
      go_wp2_with fail
      go_roundw
      case rel =>
        obtain ⟨r0, r1, r2, hpv⟩ := HU.out
        have hz2 := heap_setCell_same w1 Z 2 _ _ (.slice C m cc) HX.out
        refine ⟨3, by omega, rfl, .slice A0 n0 c0, .slice A1 n1 c1, .slice C m cc, ?_, r0.set HX.out, r1.set HX.out, (hpv.set HX.out), HY.out.setCell (by show _ ≤ Z; have := HZ.out; omega) _⟩
        simpa using hz2
      case measure => decide
    · have e0 : wr.cell? ⟨Z, 0, none⟩ = some (.slice A0 n0 c0) := by simp [World.cell?, hz]
      have e1 : wr.cell? ⟨Z, 1, none⟩ = some (.slice A1 n1 c1) := by simp [World.cell?, hz]
      have e2 : wr.cell? ⟨Z, 2, none⟩ = some (.slice A2 n2 c2) := by simp [World.cell?, hz]
      have f0 : wr.frozen? ⟨Z, 0, none⟩ = false := by simp [World.frozen?, hz]
      have f1 : wr.frozen? ⟨Z, 1, none⟩ = false := by simp [World.frozen?, hz]
      have f2 : wr.frozen? ⟨Z, 2, none⟩ = false := by simp [World.frozen?, hz]
      have HR := Lib.hid hbr
      have HX := Lib.hid hz
      have HU := Lib.hid (And.intro p0 (And.intro p1 p2))
      clear hbr p0 p1 p2 hz z0 b0
      go_wp2_with fail
      refine bodyPost_ret (v := .tuple #[.agg #[.slice A0 n0 c0, .slice A1 n1 c1, .slice A2 n2 c2], .int .i64 0]) (by simp [results, Try.results143, go_sem, e0, e1, e2]) rfl ⟨⟨A0, A1, A2, n0, n1, n2, c0, c1, c2, rfl, ?_⟩, ?_⟩
      · obtain ⟨p0, p1, p2⟩ := HU.out
        have z1 := heap_setCell_same wr Z 0 _ _ (.slice A0 n0 c0) HX.out
        have z2 := heap_setCell_same _ Z 1 _ _ (.slice A1 n1 c1) z1
        simp at z1 z2
        obtain ⟨_, _, _, e0', k0⟩ := ((p0.set HX.out).set z1).set z2
        obtain ⟨_, _, _, e1', k1⟩ := ((p1.set HX.out).set z1).set z2
        obtain ⟨_, _, _, e2', k2⟩ := ((p2.set HX.out).set z1).set z2
        exact ⟨k0 (by decide), k1 (by decide), k2 (by decide)⟩
      · have hz := HZ.out
        exact ((HR.out.setCell (p := ⟨Z, 0, none⟩) (by show _ ≤ Z; omega) _).setCell (p := ⟨Z, 1, none⟩) (by show _ ≤ Z; omega) _).setCell (p := ⟨Z, 2, none⟩) (by show _ ≤ Z; omega) _
end Go.Proofs.Ytnbdnnbeiohmgaa
