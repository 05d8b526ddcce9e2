/- grid.filled. -/
import Derived.Test.YtnbdnnbeiohmgaaGrRegion
namespace Go.Proofs.Ytnbdnnbeiohmgaa
open Go.RowKit Go.Shelf Go.Lib

theorem zeroTable : ∀ i, i < 256 → (Try.zeroCells100)[i]? = some (.slice none 0 0) := by
  have h : Try.zeroCells100 = Array.replicate 256 (.slice none 0 0) := by kernel_rfl
  intro i hi
  rw [h]
  simp [hi]

/-- a new table -/
theorem Tab.new (w : World) (b : Nat) (hb : w.heap.size = b) : Tab (w.alloc (.cells Try.zeroCells100 100)) b (fun _ => .slice none 0 0) (fun _ => []) := by
  subst hb
  have hh : (w.alloc (.cells Try.zeroCells100 100)).heap[w.heap.size]? = some (.cells Try.zeroCells100 100 (0, 0)) := heap_alloc_new w _
  refine ⟨by simp, fun i hi => ?_, fun i hi => ?_, fun i hi => World.ownsRow_nil _ _ _ _, fun i j _ _ _ g hg => by simp [Value.ownBlock] at hg⟩
  · simp only [World.cell?, hh]
    simpa using zeroTable i hi
  · simp only [World.frozen?, hh]
    simp

/-- the table that filled lays -/
def fillF (W : Int) (row : Nat → Int × Int) (n : Nat) : Nat → List S2 := fun y => if y < n then (if max 0 (row y).1 < min ((row y).2 + 1) W then [(max 0 (row y).1, min ((row y).2 + 1) W)] else []) else []
theorem fillF_len (W : Int) (row : Nat → Int × Int) (n i : Nat) : (fillF W row n i).length ≤ 1 := by
  unfold fillF
  split
  · split <;> simp
  · simp
theorem fillF_mem {W : Int} {row : Nat → Int × Int} {n i : Nat} {s : S2} (h : s ∈ fillF W row n i) : 0 ≤ s.1 ∧ s.1 < s.2 ∧ s.2 ≤ W := by
  unfold fillF at h
  split at h
  · split at h
    · simp at h
      subst h
      simp only
      omega
    · simp at h
  · simp at h
theorem fillF_succ {W H : Int} {row : Nat → Int × Int} {k : Nat} (hk : (k : Int) < H) : addF W H k (row k).1 ((row k).2 + 1) (fillF W row k) = fillF W row (k + 1) := by
  have hin : inB (k : Int) 0 (H - 1) = true := by simp [inB]; omega
  funext y
  by_cases h : max 0 (row k).1 < min ((row k).2 + 1) W
  · rw [addF_yes (by simp only [addOK, hin, Bool.true_and, decide_eq_true_eq]; exact h), Int.toNat_natCast]
    by_cases e : y = k
    · subst e
      rw [upd_same]
      have h1 : y < y + 1 := by omega
      simp only [fillF, Nat.lt_irrefl, if_false, List.nil_append, h1, if_true]
      rw [if_pos h]
    · rw [upd_other _ _ e]
      by_cases hy : y < k
      · have h1 : y < k + 1 := by omega
        simp only [fillF, hy, h1, if_true]
      · have h1 : ¬ y < k + 1 := by omega
        simp only [fillF, hy, h1, if_false]
  · rw [addF_no (by simp only [addOK, hin, Bool.true_and, decide_eq_false_iff_not]; exact h)]
    by_cases hy : y < k
    · have h1 : y < k + 1 := by omega
      simp only [fillF, hy, h1, if_true]
    · by_cases e : y = k
      · subst e
        have h1 : y < y + 1 := by omega
        simp only [fillF, hy, h1, if_true, if_false]
        rw [if_neg h]
      · have h1 : ¬ y < k + 1 := by omega
        simp only [fillF, hy, h1, if_false]

set_option maxRecDepth 100000 in
set_option maxHeartbeats 8000000 in
theorem filled_gr (W H S : Int) (vL : Value) (g : Nat) (cb : Array Value) (row : Nat → Int × Int) (w : World) (hW : 1 ≤ W ∧ W ≤ 256) (hH : 1 ≤ H ∧ H ≤ 256) (eg : ∀ args w, (callFunc g args).run Try.prog w = .ok (.enter g args) w)
    (hrow : ∀ (y : Nat) (W' : World), (y : Int) < H → Below w.heap.size w W' → Calls Try.prog g (#[.int .i64 y] ++ cb) W' fun e w'' => e = .returned (.tuple #[.int .i64 (row y).1, .int .i64 (row y).2]) ∧ Below W'.heap.size W' w'')
    (hb : ∀ y, -1152921504606846976 ≤ (row y).2 ∧ (row y).2 ≤ 1152921504606846976) :
    Calls Try.prog 69 #[.agg #[.int .i64 W, .int .i64 H, .int .i64 S, vL], .func (.func g) #[] cb] w fun e w' =>
      (∃ R, RegOf (fillF W row H.toNat) R ∧ ∃ v, e = .returned (.tuple #[v, .int .i64 (if R.length ≤ 8192 then 0 else 3)]) ∧ Runs w' v (if R.length ≤ 8192 then R else [])) ∧ Below w.heap.size w w' := by
  have HR := Lib.hid hrow
  have HB := Lib.hid hb
  clear hrow hb
  go_enter Try.func69, Try.ntmps69
  go_wp2_with fail
  have b1 := (Below.refl w.heap.size w).alloc (Nat.le_refl _) (.cells #[.int .i64 W, .int .i64 H, .int .i64 S, vL] 24)
  have T0 := Tab.new (w.alloc (.cells #[.int .i64 W, .int .i64 H, .int .i64 S, vL] 24)) (w.heap.size + 1) (by simp)
  have c0 : (w.alloc (.cells #[.int .i64 W, .int .i64 H, .int .i64 S, vL] 24)).cell? ⟨w.heap.size, 0, none⟩ = some (.int .i64 W) := by simp [go_sem]
  have c1 : (w.alloc (.cells #[.int .i64 W, .int .i64 H, .int .i64 S, vL] 24)).cell? ⟨w.heap.size, 1, none⟩ = some (.int .i64 H) := by simp [go_sem]
  have c2 : (w.alloc (.cells #[.int .i64 W, .int .i64 H, .int .i64 S, vL] 24)).cell? ⟨w.heap.size, 2, none⟩ = some (.int .i64 S) := by simp [go_sem]
  have c3 : (w.alloc (.cells #[.int .i64 W, .int .i64 H, .int .i64 S, vL] 24)).cell? ⟨w.heap.size, 3, none⟩ = some vL := by simp [go_sem]
  have z1 : (w.alloc (.cells #[.int .i64 W, .int .i64 H, .int .i64 S, vL] 24)).heap.size = w.heap.size + 1 := by simp
  obtain ⟨w1, hw1⟩ : ∃ w1, w.alloc (.cells #[.int .i64 W, .int .i64 H, .int .i64 S, vL] 24) = w1 := ⟨_, rfl⟩
  rw [hw1] at b1 T0 c0 c1 c2 c3 z1 ⊢
  clear hw1
  have b2 := b1.alloc (by omega) (.cells Try.zeroCells100 100)
  have hlt1 : w.heap.size < w1.heap.size := by omega
  have c0 := (World.cell?_alloc_lt w1 (.cells Try.zeroCells100 100) ⟨w.heap.size, 0, none⟩ hlt1).trans c0
  have c1 := (World.cell?_alloc_lt w1 (.cells Try.zeroCells100 100) ⟨w.heap.size, 1, none⟩ hlt1).trans c1
  have c2 := (World.cell?_alloc_lt w1 (.cells Try.zeroCells100 100) ⟨w.heap.size, 2, none⟩ hlt1).trans c2
  have c3 := (World.cell?_alloc_lt w1 (.cells Try.zeroCells100 100) ⟨w.heap.size, 3, none⟩ hlt1).trans c3
  obtain ⟨w2, hw2⟩ : ∃ w2, w1.alloc (.cells Try.zeroCells100 100) = w2 := ⟨_, rfl⟩
  rw [hw2] at b2 T0 c0 c1 c2 c3 ⊢
  clear hw2 hlt1 z1 b1
  obtain ⟨B, hB⟩ : ∃ B, w.heap.size = B := ⟨_, rfl⟩
  rw [hB] at T0 c0 c1 c2 c3 ⊢
  have hBl := T0.lt
  have T0' : Tab w2 (B + 1) (fun _ => .slice none 0 0) (fillF W row 0) := T0
  clear T0
  go_loopw [14] (fun i wr => ∃ k : Nat, (k : Int) ≤ H ∧ i = .int .i64 k ∧ (∃ vs, Tab wr (B + 1) vs (fillF W row k)) ∧ wr.cell? ⟨B, 0, none⟩ = some (.int .i64 W) ∧ wr.cell? ⟨B, 1, none⟩ = some (.int .i64 H) ∧ wr.cell? ⟨B, 2, none⟩ = some (.int .i64 S) ∧ wr.cell? ⟨B, 3, none⟩ = some vL ∧ Below B w wr) (fun i _ => H.toNat - (intOf i).toNat)
  case atStart => exact ⟨0, by simp; omega, rfl, ⟨_, T0'⟩, c0, c1, c2, c3, by rw [← hB]; exact b2⟩
  case round =>
    obtain ⟨k, hk, rfl, ⟨vs, hT⟩, d0, d1, d2, d3, hbw⟩ := hrel
    clear c0 c1 c2 c3 T0' b2
    have hBw := hT.lt
    by_cases hlt : (k : Int) < H
    · have hcall := HR.out k wr hlt (by rw [hB]; exact hbw)
      obtain ⟨⟨A, T⟩, hrk⟩ : ∃ p, row k = p := ⟨_, rfl⟩
      have hTb := HB.out k
      rw [hrk] at hcall hTb
      dsimp only at hcall hTb
      have eT : wrap64 (T + 1) = T + 1 := wrapId _ (by omega) (by omega)
      have HC := Lib.hid hcall
      have HK := Lib.hid hrk
      clear hcall hrk
      go_wp2_with fail
      refine HC.out.mono ?_
      rintro e w3 ⟨rfl, hb3⟩
      have hT3 := hT.below hb3
      have d0 := (hb3.cell (p := ⟨B, 0, none⟩) (by show B < wr.heap.size; omega)).trans d0
      have d1 := (hb3.cell (p := ⟨B, 1, none⟩) (by show B < wr.heap.size; omega)).trans d1
      have d2 := (hb3.cell (p := ⟨B, 2, none⟩) (by show B < wr.heap.size; omega)).trans d2
      have d3 := (hb3.cell (p := ⟨B, 3, none⟩) (by show B < wr.heap.size; omega)).trans d3
      have hb4 := hbw.trans (hb3.mono (by omega))
      have hadd := add_gr W H S k A (T + 1) vL (B + 1) vs (fillF W row k) w3 hW hH hT3 (fun i _ => by have := fillF_len W row k i; omega)
      have hsucc := fillF_succ (W := W) (row := row) hlt
      rw [HK.out] at hsucc
      rw [hsucc] at hadd
      have hB3 : B < w3.heap.size := by have := hT3.lt; omega
      have HA := Lib.hid hadd
      clear hadd hsucc hT hT3 hb3 HC
      go_wp2_with fail
      refine HA.out.mono ?_
      rintro e w4 ⟨rfl, ⟨vs', hT4, -⟩, hb4'⟩
      go_wp2_with fail
      go_roundw
      case rel => exact ⟨k + 1, by push_cast; omega, by go_num, ⟨vs', hT4⟩, (hb4'.cell (p := ⟨B, 0, none⟩) (by simp)).trans d0, (hb4'.cell (p := ⟨B, 1, none⟩) (by simp)).trans d1, (hb4'.cell (p := ⟨B, 2, none⟩) (by simp)).trans d2, (hb4'.cell (p := ⟨B, 3, none⟩) (by simp)).trans d3, hb4.trans (hb4'.mono (by omega))⟩
      case measure => simp [intOf]; omega
    · have hke : (k : Int) = H := by omega
      have hkn : H.toNat = k := by omega
      go_wp2_with fail
      have hreg := region_gr (B + 1) vs (fillF W row k) wr hT (fun i _ => by have := fillF_len W row k i; omega) (fun i _ s hs => by have := fillF_mem hs; omega)
      have HG := Lib.hid hreg
      rw [← hkn] at HG
      clear hreg hT
      refine HG.out.mono ?_
      rintro e w3 ⟨⟨R, hR, v, rfl, hv⟩, hb3⟩
      have HR2 := Lib.hid hR
      have HV := Lib.hid hv
      clear hR hv
      obtain ⟨E, hE⟩ : ∃ E : Int, (if R.length ≤ 8192 then 0 else 3) = E := ⟨_, rfl⟩
      rw [hE]
      go_wp2_with fail
      refine bodyPost_ret (v := .tuple #[v, .int .i64 E]) (by simp [results, Try.results69, go_sem]) rfl ⟨⟨R, HR2.out, v, by rw [hE], HV.out⟩, ?_⟩
      rw [hB]
      exact hbw.trans (hb3.mono (by omega))
end Go.Proofs.Ytnbdnnbeiohmgaa
