/- grid.Half: the cells of a row from the first to the last that is to the left. -/
import Derived.Test.YtnbdnnbeiohmgaaGrHalf1
namespace Go.Proofs.Ytnbdnnbeiohmgaa
open Go.RowKit Go.Shelf Go.Lib

def upTo (L : Int → Bool) (hi : Int) : Nat → Int → Int
  | 0, x => x
  | n + 1, x => if decide (x ≤ hi) && !L x then upTo L hi n (x + 1) else x
def dnTo (L : Int → Bool) (lo : Int) : Nat → Int → Int
  | 0, x => x
  | n + 1, x => if decide (lo ≤ x) && !L x then dnTo L lo n (x - 1) else x
theorem upTo_stop {L : Int → Bool} {hi x : Int} {n : Nat} (h : (decide (x ≤ hi) && !L x) = false) : upTo L hi n x = x := by
  cases n with
  | zero => rfl
  | succ n => rw [upTo, h]; rfl
theorem upTo_go {L : Int → Bool} {hi x : Int} {n : Nat} (h : (decide (x ≤ hi) && !L x) = true) : upTo L hi (n + 1) x = upTo L hi n (x + 1) := by rw [upTo, h]; rfl
theorem dnTo_stop {L : Int → Bool} {lo x : Int} {n : Nat} (h : (decide (lo ≤ x) && !L x) = false) : dnTo L lo n x = x := by
  cases n with
  | zero => rfl
  | succ n => rw [dnTo, h]; rfl
theorem dnTo_go {L : Int → Bool} {lo x : Int} {n : Nat} (h : (decide (lo ≤ x) && !L x) = true) : dnTo L lo (n + 1) x = dnTo L lo n (x - 1) := by rw [dnTo, h]; rfl
def halfRow (W : Int) (L : Int → Bool) : Int × Int := (upTo L (W - 1) W.toNat 0, dnTo L (upTo L (W - 1) W.toNat 0) W.toNat (W - 1))
theorem upTo_spec {L : Int → Bool} {hi : Int} : ∀ (n : Nat) (x : Int), x ≤ upTo L hi n x ∧ upTo L hi n x ≤ max x (hi + 1) ∧ ∀ c, x ≤ c → c < upTo L hi n x → L c = false := by
  intro n
  induction n with
  | zero => intro x; exact ⟨Int.le_refl _, by simp only [upTo]; omega, fun c h1 h2 => by simp only [upTo] at h2; omega⟩
  | succ n ih =>
    intro x
    cases h : (decide (x ≤ hi) && !L x) with
    | false => rw [upTo_stop h]; exact ⟨Int.le_refl _, by omega, fun c h1 h2 => by omega⟩
    | true =>
      rw [upTo_go h]
      obtain ⟨i1, i2, i3⟩ := ih (x + 1)
      simp only [Bool.and_eq_true, decide_eq_true_eq, Bool.not_eq_true'] at h
      refine ⟨by omega, by omega, fun c h1 h2 => ?_⟩
      by_cases e : c = x
      · subst e; exact h.2
      · exact i3 c (by omega) h2
theorem dnTo_spec {L : Int → Bool} {lo : Int} : ∀ (n : Nat) (x : Int), dnTo L lo n x ≤ x ∧ min x (lo - 1) ≤ dnTo L lo n x ∧ ∀ c, dnTo L lo n x < c → c ≤ x → L c = false := by
  intro n
  induction n with
  | zero => intro x; exact ⟨Int.le_refl _, by simp only [dnTo]; omega, fun c h1 h2 => by simp only [dnTo] at h1; omega⟩
  | succ n ih =>
    intro x
    cases h : (decide (lo ≤ x) && !L x) with
    | false => rw [dnTo_stop h]; exact ⟨Int.le_refl _, by omega, fun c h1 h2 => by omega⟩
    | true =>
      rw [dnTo_go h]
      obtain ⟨i1, i2, i3⟩ := ih (x - 1)
      simp only [Bool.and_eq_true, decide_eq_true_eq, Bool.not_eq_true'] at h
      refine ⟨by omega, by omega, fun c h1 h2 => ?_⟩
      by_cases e : c = x
      · subst e; exact h.2
      · exact i3 c h1 (by omega)

set_option maxRecDepth 100000 in
set_option maxHeartbeats 8000000 in
theorem half2_gr (W H S : Int) (vL : Value) (y B Lb : Nat) (cb : Array Value) (L : Int → Bool) (w : World) (hW : 1 ≤ W ∧ W ≤ 256) (hB : B < w.heap.size) (hL : Lb < w.heap.size) (c0 : w.cell? ⟨B, 0, none⟩ = some (.int .i64 W))
    (cl : w.cell? ⟨Lb, 0, none⟩ = some (.func (.func 73) #[] cb))
    (hcall : ∀ (x : Int) (W' : World), 0 ≤ x ∧ x ≤ 256 → Below w.heap.size w W' → Calls Try.prog 73 (#[.agg #[.int .i64 x, .int .i64 y]] ++ cb) W' fun e w' => e = .returned (.bool (L x)) ∧ Below W'.heap.size W' w') :
    Calls Try.prog 74 #[.int .i64 y, .pointer (some ⟨B, 0, none⟩), .pointer (some ⟨Lb, 0, none⟩)] w fun e w' =>
      e = .returned (.tuple #[.int .i64 (halfRow W L).1, .int .i64 (halfRow W L).2]) ∧ Below w.heap.size w w' := by
  have HC := Lib.hid hcall
  clear hcall
  have eW : IntKind.i64.wrap (W - 1) = W - 1 := wrapK _ (by omega) (by omega)
  have eW2 : wrap64 (W - 1) = W - 1 := wrapId _ (by omega) (by omega)
  obtain ⟨D, hD⟩ : ∃ D, W - 1 = D := ⟨_, rfl⟩
  rw [hD] at eW eW2
  have hDr := Lib.hid hD
  clear hD
  have eW' : IntKind.i64.wrap (W - 1) = D := by rw [hDr.out]; exact eW
  have eW2' : wrap64 (W - 1) = D := by rw [hDr.out]; exact eW2
  go_enter Try.func74, Try.ntmps74
  go_wp2_with fail
  go_quiet (fail)
  obtain ⟨w1, hw1⟩ : ∃ w1, w.drewN nq = w1 := ⟨_, rfl⟩
  have b1 : Below w.heap.size w w1 := by rw [← hw1]; exact belowDrewN (Below.refl _ _) _
  rw [hw1]
  clear hw1
  go_wp2_with fail
  go_loopw [6] (fun i wr => ∃ (x : Int) (n : Nat), i = .int .i64 x ∧ 0 ≤ x ∧ x ≤ 256 ∧ upTo L D n x = upTo L D W.toNat 0 ∧ D + 1 - x ≤ n ∧ Below w.heap.size w wr) (fun i _ => (256 - intOf i).toNat)
  case atStart => exact ⟨0, W.toNat, rfl, by omega, by omega, rfl, by have := hDr.out; omega, b1⟩
  case round =>
    obtain ⟨x, n, rfl, hx0, hx1, hup, hfu, hb⟩ := hrel
    have hsz := hb.size
    have cl := (hb.cell (p := ⟨Lb, 0, none⟩) hL).trans cl
    have HU := Lib.hid hup
    clear hup
    by_cases hxD : x ≤ D
    · have hcx := HC.out x wr ⟨by omega, by omega⟩ hb
      cases hLx : L x with
      | false =>
        rw [hLx] at hcx
        have HCx := Lib.hid hcx
        clear hcx
        have ex : wrap64 (x + 1) = x + 1 := wrapId _ (by omega) (by omega)
        have hDW := hDr.out
        go_wp2_with fail
        refine HCx.out.mono ?_
        rintro e w2 ⟨rfl, hb2⟩
        go_wp2_with fail
        go_roundw
        case rel =>
          obtain ⟨m, rfl⟩ : ∃ m, n = m + 1 := ⟨n - 1, by omega⟩
          refine ⟨x + 1, m, rfl, by omega, by omega, ?_, by omega, hb.trans (hb2.mono hsz)⟩
          rw [← HU.out, upTo_go (by simp [hxD, hLx])]
        case measure => simp [intOf]; omega
      | true =>
        rw [hLx] at hcx
        have HCx := Lib.hid hcx
        clear hcx
        have hst := Lib.hid (HU.out.symm.trans (upTo_stop (n := n) (show (decide (x ≤ D) && !L x) = false by simp [hLx])))
        go_wp2_with fail
        refine HCx.out.mono ?_
        rintro e w2 ⟨rfl, hb2⟩
        have hb := hb.trans (hb2.mono hsz)
        clear hb2
        have hsz := hb.size
        go_wp2_with fail
        go_loopw [7] (fun i wr => ∃ (t : Int) (m : Nat), i = .int .i64 t ∧ x - 1 ≤ t + 256 ∧ t ≤ D ∧ dnTo L x m t = dnTo L x W.toNat D ∧ t + 1 - x ≤ m ∧ Below w.heap.size w wr) (fun i _ => (intOf i + 300).toNat)
        case atStart => exact ⟨D, W.toNat, rfl, by have := hDr.out; omega, by omega, rfl, by have := hDr.out; omega, hb⟩
        case round =>
          obtain ⟨t, m, rfl, ht0, ht1, hdn, hfu2, hb⟩ := hrel
          have hsz := hb.size
          have cl := (hb.cell (p := ⟨Lb, 0, none⟩) hL).trans (by assumption : w.cell? ⟨Lb, 0, none⟩ = _)
          have HD := Lib.hid hdn
          clear hdn
          have hDW := hDr.out
          by_cases hxt : x ≤ t
          · have hcx := HC.out t wr ⟨by omega, by omega⟩ hb
            cases hLt : L t with
            | false =>
              rw [hLt] at hcx
              have HCx := Lib.hid hcx
              clear hcx
              have ex : wrap64 (t - 1) = t - 1 := wrapId _ (by omega) (by omega)
              go_wp2_with fail
              refine HCx.out.mono ?_
              rintro e w3 ⟨rfl, hb3⟩
              go_wp2_with fail
              go_roundw
              case rel =>
                obtain ⟨m', rfl⟩ : ∃ m', m = m' + 1 := ⟨m - 1, by omega⟩
                refine ⟨t - 1, m', rfl, by omega, by omega, ?_, by omega, hb.trans (hb3.mono hsz)⟩
                rw [← HD.out, dnTo_go (by simp [hxt, hLt])]
              case measure => simp [intOf]; omega
            | true =>
              rw [hLt] at hcx
              have HCx := Lib.hid hcx
              clear hcx
              have hst2 := Lib.hid (HD.out.symm.trans (dnTo_stop (n := m) (show (decide (x ≤ t) && !L t) = false by simp [hLt])))
              go_wp2_with fail
              refine HCx.out.mono ?_
              rintro e w3 ⟨rfl, hb3⟩
              go_wp2_with fail
              refine bodyPost_ret (v := .tuple #[.int .i64 x, .int .i64 t]) (by simp [results, Try.results74, go_sem]) rfl ⟨?_, hb.trans (hb3.mono hsz)⟩
              simp only [halfRow]
              rw [hDr.out, hst.out, hst2.out]
          · have hst2 := Lib.hid (HD.out.symm.trans (dnTo_stop (n := m) (show (decide (x ≤ t) && !L t) = false by simp [hxt])))
            have hxt' : t < x := by omega
            go_wp2_with fail
            refine bodyPost_ret (v := .tuple #[.int .i64 x, .int .i64 t]) (by simp [results, Try.results74, go_sem]) rfl ⟨?_, hb⟩
            simp only [halfRow]
            rw [hDr.out, hst.out, hst2.out]
    · have hst := Lib.hid (HU.out.symm.trans (upTo_stop (n := n) (show (decide (x ≤ D) && !L x) = false by simp [hxD])))
      have hxD' : D < x := by omega
      obtain ⟨w2, rfl⟩ : ∃ w2, wr = w2 := ⟨_, rfl⟩
      go_wp2_with fail
      go_loopw [7] (fun i wr => ∃ (t : Int) (m : Nat), i = .int .i64 t ∧ x - 1 ≤ t + 256 ∧ t ≤ D ∧ dnTo L x m t = dnTo L x W.toNat D ∧ t + 1 - x ≤ m ∧ Below w.heap.size w wr) (fun i _ => (intOf i + 300).toNat)
      case atStart => exact ⟨D, W.toNat, rfl, by have := hDr.out; omega, by omega, rfl, by have := hDr.out; omega, hb⟩
      case round =>
        obtain ⟨t, m, rfl, ht0, ht1, hdn, hfu2, hb⟩ := hrel
        have hsz := hb.size
        have cl := (hb.cell (p := ⟨Lb, 0, none⟩) hL).trans (by assumption : w.cell? ⟨Lb, 0, none⟩ = _)
        have HD := Lib.hid hdn
        clear hdn
        have hDW := hDr.out
        by_cases hxt : x ≤ t
        · exfalso
          omega
        · have hst2 := Lib.hid (HD.out.symm.trans (dnTo_stop (n := m) (show (decide (x ≤ t) && !L t) = false by simp [hxt])))
          have hxt' : t < x := by omega
          go_wp2_with fail
          refine bodyPost_ret (v := .tuple #[.int .i64 x, .int .i64 t]) (by simp [results, Try.results74, go_sem]) rfl ⟨?_, hb⟩
          simp only [halfRow]
          rw [hDr.out, hst.out, hst2.out]
end Go.Proofs.Ytnbdnnbeiohmgaa
