/- grid.right: are runs a region of a grid? -/
import Derived.Test.YtnbdnnbeiohmgaaGrNear
namespace Go.Proofs.Ytnbdnnbeiohmgaa
open Go.RowKit Go.Shelf Go.Lib

def okR (W H : Int) (p x : R3) : Bool := inB x.1 (max 0 p.1) (H - 1) && inB x.2.1 0 (wrap64 (x.2.2 - 1)) && decide (x.2.2 ≤ W) && !(x.1 == p.1 && decide (x.2.1 ≤ p.2.2))
def rightL (W H : Int) : R3 → List R3 → Bool
  | _, [] => true
  | p, x :: l => okR W H p x && rightL W H x l
def rightB (W H : Int) (l : List R3) : Bool := rightL W H (-1, 0, 0) l && decide (l.length ≤ 8192)
/-- the run before the k-th -/
def lastR (l : List R3) : Nat → R3
  | 0 => (-1, 0, 0)
  | k + 1 => l.getD k default
theorem rightL_drop {W H : Int} {l : List R3} {k : Nat} (h : k < l.length) : rightL W H (lastR l k) (l.drop k) = (okR W H (lastR l k) (l.getD k default) && rightL W H (lastR l (k + 1)) (l.drop (k + 1))) := by
  rw [List.drop_eq_getElem_cons h, rightL]
  simp [lastR, List.getD, h]

theorem rightB_no {W H : Int} {l : List R3} {k : Nat} {x p : R3} (hA : rightL W H (-1, 0, 0) l = rightL W H (lastR l k) (l.drop k)) (hx : l[k]? = some x) (hp : lastR l k = p) (h : okR W H p x = false) : rightB W H l = false := by
  have hk := (List.getElem?_eq_some_iff.1 hx).1
  have e : l.getD k default = x := by simp [List.getD, hx]
  rw [rightB, hA, rightL_drop hk, hp, e, h]
  rfl
theorem rightL_on {W H : Int} {l : List R3} {k : Nat} {x p : R3} (hA : rightL W H (-1, 0, 0) l = rightL W H (lastR l k) (l.drop k)) (hx : l[k]? = some x) (hp : lastR l k = p) (h : okR W H p x = true) :
    rightL W H (-1, 0, 0) l = rightL W H (lastR l (k + 1)) (l.drop (k + 1)) ∧ lastR l (k + 1) = x := by
  have hk := (List.getElem?_eq_some_iff.1 hx).1
  have e : l.getD k default = x := by simp [List.getD, hx]
  refine ⟨?_, e⟩
  rw [hA, rightL_drop hk, hp, e, h]
  rfl

set_option maxRecDepth 100000 in
set_option maxHeartbeats 4000000 in
theorem right_gr (W H S : Int) (vL v : Value) (l : List R3) (w : World) (hH : 1 ≤ H ∧ H ≤ 256) (h : Runs w v l) :
    Calls Try.prog 104 #[.agg #[.int .i64 W, .int .i64 H, .int .i64 S, vL], v] w fun e w' => e = .returned (.bool (rightB W H l)) ∧ Below w.heap.size w w' := by
  have h' := h
  obtain ⟨A, c, rfl, h1, h2, -⟩ := h
  unfold maxLen at h2
  have eH : wrap64 (H - 1) = H - 1 := wrapId _ (by omega) (by omega)
  go_enter Try.func104, Try.ntmps104
  go_wp2_with fail
  have b1 : Below w.heap.size w ((w.alloc (.cells #[.int .i64 W, .int .i64 H, .int .i64 S, vL] 24)).alloc (.cells #[.int .i64 (-1), .int .i64 0, .int .i64 0] 72)) :=
    ((Below.refl _ _).alloc (Nat.le_refl _) _).alloc (by simp) _
  have g0 : ((w.alloc (.cells #[.int .i64 W, .int .i64 H, .int .i64 S, vL] 24)).alloc (.cells #[.int .i64 (-1), .int .i64 0, .int .i64 0] 72)).cell? ⟨w.heap.size, 0, none⟩ = some (.int .i64 W) := by simp [go_sem]
  have g1 : ((w.alloc (.cells #[.int .i64 W, .int .i64 H, .int .i64 S, vL] 24)).alloc (.cells #[.int .i64 (-1), .int .i64 0, .int .i64 0] 72)).cell? ⟨w.heap.size, 1, none⟩ = some (.int .i64 H) := by simp [go_sem]
  have l0 : ((w.alloc (.cells #[.int .i64 W, .int .i64 H, .int .i64 S, vL] 24)).alloc (.cells #[.int .i64 (-1), .int .i64 0, .int .i64 0] 72)).cell? ⟨w.heap.size + 1, 0, none⟩ = some (.int .i64 (-1)) := by simp [go_sem]
  have l1 : ((w.alloc (.cells #[.int .i64 W, .int .i64 H, .int .i64 S, vL] 24)).alloc (.cells #[.int .i64 (-1), .int .i64 0, .int .i64 0] 72)).cell? ⟨w.heap.size + 1, 1, none⟩ = some (.int .i64 0) := by simp [go_sem]
  have l2 : ((w.alloc (.cells #[.int .i64 W, .int .i64 H, .int .i64 S, vL] 24)).alloc (.cells #[.int .i64 (-1), .int .i64 0, .int .i64 0] 72)).cell? ⟨w.heap.size + 1, 2, none⟩ = some (.int .i64 0) := by simp [go_sem]
  have z0 : ((w.alloc (.cells #[.int .i64 W, .int .i64 H, .int .i64 S, vL] 24)).alloc (.cells #[.int .i64 (-1), .int .i64 0, .int .i64 0] 72)).frozen? ⟨w.heap.size + 1, 0, none⟩ = false := by simp [go_sem]
  have z1 : ((w.alloc (.cells #[.int .i64 W, .int .i64 H, .int .i64 S, vL] 24)).alloc (.cells #[.int .i64 (-1), .int .i64 0, .int .i64 0] 72)).frozen? ⟨w.heap.size + 1, 1, none⟩ = false := by simp [go_sem]
  have z2 : ((w.alloc (.cells #[.int .i64 W, .int .i64 H, .int .i64 S, vL] 24)).alloc (.cells #[.int .i64 (-1), .int .i64 0, .int .i64 0] 72)).frozen? ⟨w.heap.size + 1, 2, none⟩ = false := by simp [go_sem]
  have hz0 : w.heap.size + 2 ≤ ((w.alloc (.cells #[.int .i64 W, .int .i64 H, .int .i64 S, vL] 24)).alloc (.cells #[.int .i64 (-1), .int .i64 0, .int .i64 0] 72)).heap.size := by simp
  obtain ⟨w0, hw0⟩ : ∃ w0, ((w.alloc (.cells #[.int .i64 W, .int .i64 H, .int .i64 S, vL] 24)).alloc (.cells #[.int .i64 (-1), .int .i64 0, .int .i64 0] 72)) = w0 := ⟨_, rfl⟩
  rw [hw0] at b1 hz0 g0 g1 l0 l1 l2 z0 z1 z2 ⊢
  clear hw0
  obtain ⟨B, hB⟩ : ∃ B, w.heap.size = B := ⟨_, rfl⟩
  rw [hB] at b1 hz0 g0 g1 l0 l1 l2 z0 z1 z2 ⊢
  go_loopw [11] (fun i wr => ∃ k : Nat, k ≤ l.length ∧ i = .int .i64 k ∧ Below B w wr ∧ wr.cell? ⟨B, 0, none⟩ = some (.int .i64 W) ∧ wr.cell? ⟨B, 1, none⟩ = some (.int .i64 H) ∧
      wr.cell? ⟨B + 1, 0, none⟩ = some (.int .i64 (lastR l k).1) ∧ wr.cell? ⟨B + 1, 1, none⟩ = some (.int .i64 (lastR l k).2.1) ∧ wr.cell? ⟨B + 1, 2, none⟩ = some (.int .i64 (lastR l k).2.2) ∧
      wr.frozen? ⟨B + 1, 0, none⟩ = false ∧ wr.frozen? ⟨B + 1, 1, none⟩ = false ∧ wr.frozen? ⟨B + 1, 2, none⟩ = false ∧ B + 2 ≤ wr.heap.size ∧ Hid (rightL W H (-1, 0, 0) l = rightL W H (lastR l k) (l.drop k))) (fun i _ => l.length - (intOf i).toNat)
  case atStart => exact ⟨0, Nat.zero_le _, rfl, b1, g0, g1, l0, l1, l2, z0, z1, z2, hz0, rfl⟩
  case round =>
    obtain ⟨k, hk, rfl, hb, q0, q1, r0, r1, r2, y0, y1, y2, hz, hA⟩ := hrel
    clear g0 g1 b1 l0 l1 l2 z0 z1 z2 hz0
    obtain ⟨⟨p0, p1, p2⟩, hp⟩ : ∃ p, lastR l k = p := ⟨_, rfl⟩
    rw [hp] at r0 r1 r2
    dsimp only at r0 r1 r2
    by_cases hlt : k < l.length
    · obtain ⟨⟨y, f, t⟩, hx⟩ : ∃ x, l[k]? = some x := ⟨_, List.getElem?_eq_getElem hlt⟩
      obtain ⟨b, off, rfl, hbl, hc⟩ : ∃ b off, A = some ⟨b, off, none⟩ ∧ b < w.heap.size ∧ wr.cell? ⟨b, off + k * 3, none⟩ = some (.int .i64 y) ∧ wr.cell? ⟨b, off + k * 3 + 1, none⟩ = some (.int .i64 f) ∧ wr.cell? ⟨b, off + k * 3 + 2, none⟩ = some (.int .i64 t) := by
        obtain ⟨A', c', e, -, -, h3⟩ := h'
        cases e
        obtain ⟨b, off, rfl, hbl, hc⟩ := h3 (by omega)
        exact ⟨b, off, rfl, hbl, (hb.cell (p := ⟨b, off + k * 3, none⟩) (by dsimp only; omega)).trans (hc k 0 _ _ hx rfl), (hb.cell (p := ⟨b, off + k * 3 + 1, none⟩) (by dsimp only; omega)).trans (hc k 1 _ _ hx rfl), (hb.cell (p := ⟨b, off + k * 3 + 2, none⟩) (by dsimp only; omega)).trans (hc k 2 _ _ hx rfl)⟩
      obtain ⟨m0, m1, m2⟩ := hc
      have HX := Lib.hid hx
      have HL := Lib.hid h'
      have HP := Lib.hid hp
      clear hx h' hp
      have n0 : B < wr.heap.size := by omega
      have n1 : B + 1 < wr.heap.size := by omega
      have n2 : b < wr.heap.size := by omega
      go_wp2_with fail
      refine (within_gr _ _ _ _).mono ?_
      rintro e w' ⟨rfl, rfl⟩
      cases h1 : inB y (max 0 p0) (H - 1) with
      | false =>
        go_wp2_with fail
        go_ret
        exact ⟨retOf (congrArg Value.bool (rightB_no hA.out HX.out HP.out (by simp [okR, h1])).symm), hB.symm ▸ hb.trans (((Below.refl _ _).alloc (Nat.le_refl _) _).mono (by omega))⟩
      | true =>
        go_wp2_with fail
        refine (within_gr _ _ _ _).mono ?_
        rintro e w' ⟨rfl, rfl⟩
        cases h2 : inB f 0 (wrap64 (t - 1)) with
        | false =>
          go_wp2_with fail
          go_ret
          exact ⟨retOf (congrArg Value.bool (rightB_no hA.out HX.out HP.out (by simp [okR, h1, h2])).symm), hB.symm ▸ hb.trans (((Below.refl _ _).alloc (Nat.le_refl _) _).mono (by omega))⟩
        | true =>
          by_cases h3 : t ≤ W
          · by_cases h4 : y = p0
            · subst h4
              by_cases h5 : f ≤ p2
              · go_wp2_with fail
                go_ret
                exact ⟨retOf (congrArg Value.bool (rightB_no hA.out HX.out HP.out (by simp [okR, h1, h2, h3, h5])).symm), hB.symm ▸ hb.trans (((Below.refl _ _).alloc (Nat.le_refl _) _).mono (by omega))⟩
              · have h5' : p2 < f := by omega
                have hok : okR W H (y, p1, p2) (y, f, t) = true := by simp [okR, h1, h2, h3]; omega
                have H5 := Lib.hid hok
                clear hok
                go_wp2_with fail
                obtain ⟨a1, a2⟩ := rightL_on hA.out HX.out HP.out H5.out
                go_roundw
                case rel =>
                  refine ⟨k + 1, by omega, by go_num, ((((hb.setCell (p := ⟨B + 1, 0, none⟩) (by simp) _).setCell (p := ⟨B + 1, 1, none⟩) (by simp) _).setCell (p := ⟨B + 1, 2, none⟩) (by simp) _).alloc (by simp; omega) _), ?_, ?_, ?_, ?_, ?_, ?_, ?_, ?_, ?_, a1⟩
                  all_goals (try rw [a2])
                  all_goals (first | (simp [go_sem, q0, q1, r0, r1, r2, y0, y1, y2, n0, n1]; done) | (simp [World.setCell]; omega))
                case measure => simp [intOf]; omega
            · have h4' : (y == p0) = false := by simpa using h4
              have hok : okR W H (p0, p1, p2) (y, f, t) = true := by simp [okR, h1, h2, h3, h4]
              have H5 := Lib.hid hok
              clear hok
              go_wp2_with fail
              obtain ⟨a1, a2⟩ := rightL_on hA.out HX.out HP.out H5.out
              go_roundw
              case rel =>
                refine ⟨k + 1, by omega, by go_num, ((((hb.setCell (p := ⟨B + 1, 0, none⟩) (by simp) _).setCell (p := ⟨B + 1, 1, none⟩) (by simp) _).setCell (p := ⟨B + 1, 2, none⟩) (by simp) _).alloc (by simp; omega) _), ?_, ?_, ?_, ?_, ?_, ?_, ?_, ?_, ?_, a1⟩
                all_goals (try rw [a2])
                all_goals (first | (simp [go_sem, q0, q1, r0, r1, r2, y0, y1, y2, n0, n1]; done) | (simp [World.setCell]; omega))
              case measure => simp [intOf]; omega
          · have h3' : W < t := by omega
            go_wp2_with fail
            go_ret
            exact ⟨retOf (congrArg Value.bool (rightB_no hA.out HX.out HP.out (by simp [okR, h1, h2]; omega)).symm), hB.symm ▸ hb.trans (((Below.refl _ _).alloc (Nat.le_refl _) _).mono (by omega))⟩
    · have hke : k = l.length := by omega
      subst hke
      have hfin : rightB W H l = decide (l.length ≤ 8192) := by rw [rightB, hA.out]; simp [rightL]
      have HF := Lib.hid hfin
      clear hfin
      go_wp2_with fail
      go_ret
      exact ⟨retOf (congrArg Value.bool (by rw [HF.out]; exact decide_eq_decide.2 (by omega))), hB.symm ▸ hb⟩
end Go.Proofs.Ytnbdnnbeiohmgaa
