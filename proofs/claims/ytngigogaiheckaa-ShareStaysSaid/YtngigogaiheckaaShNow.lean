/- share: of, is, now. -/
import Derived.StillTailTactics
import Derived.Test.YtngigogaiheckaaShLeaf
namespace Go.Proofs.Ytngigogaiheckaa
open Go.RowKit Go.Lib Go.Maps

set_option maxHeartbeats 1000000 in
theorem of_sh (s : Sd) (w : World) (hc : -1000000 ≤ s.c ∧ s.c ≤ 1000000) : Calls Try.prog 34 #[valSd s] w fun e w' => e = .returned (.agg #[.int .i64 (s.c - 1), .int .i64 s.n]) ∧ Below w.heap.size w w' := by
  obtain ⟨c, n, key, val, time, trust, back⟩ := s
  dsimp only [valSd] at hc ⊢
  have e1 : wrap64 (c - 1) = c - 1 := wrapId _ (by omega) (by omega)
  go_enter Try.func34, Try.ntmps34
  go_wp2_with fail
  refine bodyPost_ret (v := .agg #[.int .i64 (c - 1), .int .i64 n]) (by simp [results, Try.results34, go_sem]) rfl ⟨rfl, ?_⟩
  exact ((Below.refl w.heap.size w).alloc (Nat.le_refl _) _).alloc (by simp) _

theorem neq_map (m : Nat) (w : World) : (binOp BinOp.neq 68 (.map (some m)) (.map none)).run Try.prog w = .ok (.bool true) w := by kernel_rfl
set_option maxRecDepth 100000 in
theorem is_sh (p m : Nat) (w : World) (c1 : w.cell? ⟨p, 1, none⟩ = some (.map (some m))) : Calls Try.prog 27 #[.pointer (some ⟨p, 0, none⟩)] w fun e w' => e = .returned (.bool true) ∧ w = w' := by
  have hb := neq_map m w
  go_enter Try.func27, Try.ntmps27
  go_wp2_with fail
  go_ret
  exact ⟨rfl, rfl⟩

def zV : Array Value := #[.int .i64 0, .int .i64 0, .int .i64 0, .int .i64 0, .int .i64 0, .int .i64 0, .int .i64 0, .int .i64 0]
set_option maxRecDepth 100000 in
set_option maxHeartbeats 1000000 in
theorem now_sh (w : World) {F : Nat → Prop} {p m : Nat} {va vk : Value} {cen : Int} {arr : List Sd} (h : PicAt w F p m va vk cen arr) (hl : arr.length ≤ 100000) :
    Calls Try.prog 28 #[.pointer (some ⟨p, 0, none⟩)] w fun e w' => e = .returned (valV (knF arr)) ∧ Below w.heap.size w w' := by
  obtain ⟨g, cap, rfl, hg, hcc⟩ := h.known
  have c3 := h.c3
  have k0 := hcc arr.length 0 (Nat.le_refl _) (by omega)
  have k1 := hcc arr.length 1 (Nat.le_refl _) (by omega)
  have k2 := hcc arr.length 2 (Nat.le_refl _) (by omega)
  have k3 := hcc arr.length 3 (Nat.le_refl _) (by omega)
  have k4 := hcc arr.length 4 (Nat.le_refl _) (by omega)
  have k5 := hcc arr.length 5 (Nat.le_refl _) (by omega)
  have k6 := hcc arr.length 6 (Nat.le_refl _) (by omega)
  have k7 := hcc arr.length 7 (Nat.le_refl _) (by omega)
  rw [List.take_length] at k0 k1 k2 k3 k4 k5 k6 k7
  have hlt := h.lt
  clear hcc h
  generalize arr.length = n at *
  generalize knF arr = v at *
  simp only [Nat.add_zero] at k0
  have hn1 : wrap64 ((n : Int) + 1 - 1) = n := (wrapId ((n : Int) + 1 - 1) (by omega) (by omega)).trans (by omega)
  have hn2 : IntKind.i64.wrap ((n : Int) + 1 - 1) = n := (wrapK ((n : Int) + 1 - 1) (by omega) (by omega)).trans (by omega)
  have hn3 : (0 : Int) ≤ n := by omega
  have hn4 : (n : Int) < (n : Int) + 1 := by omega
  unfold valV
  go_enter Try.func28, Try.ntmps28
  go_wp2_with fail
  have b1 := (Below.refl w.heap.size w).alloc (Nat.le_refl _) (.cells zV 62)
  unfold zV at b1
  obtain ⟨w1, hw1⟩ : ∃ w1, w.alloc (.cells zV 62) = w1 := ⟨_, rfl⟩
  unfold zV at hw1
  rw [hw1] at b1 ⊢
  have c3 := (b1.cell (p := ⟨p, 3, none⟩) hlt).trans c3
  have k0 := (b1.cell (p := ⟨g, n * 8, none⟩) hg).trans k0
  have k1 := (b1.cell (p := ⟨g, n * 8 + 1, none⟩) hg).trans k1
  have k2 := (b1.cell (p := ⟨g, n * 8 + 2, none⟩) hg).trans k2
  have k3 := (b1.cell (p := ⟨g, n * 8 + 3, none⟩) hg).trans k3
  have k4 := (b1.cell (p := ⟨g, n * 8 + 4, none⟩) hg).trans k4
  have k5 := (b1.cell (p := ⟨g, n * 8 + 5, none⟩) hg).trans k5
  have k6 := (b1.cell (p := ⟨g, n * 8 + 6, none⟩) hg).trans k6
  have k7 := (b1.cell (p := ⟨g, n * 8 + 7, none⟩) hg).trans k7
  have hn5 : IntKind.i64.wrap (n : Int) = n := wrapK _ (by omega) (by omega)
  go_still_tail 12, (by kernel_rfl)
  change wpList _ _ _ _ _ w1.drew
  rw [← hw1]
  change wpList _ _ _ _ _ (w.drew.alloc (.cells #[.int .i64 0, .int .i64 0, .int .i64 0, .int .i64 0, .int .i64 0, .int .i64 0, .int .i64 0, .int .i64 0] 62))
  obtain ⟨w2, hw2⟩ : ∃ w2, w.drew = w2 := ⟨_, rfl⟩
  have hz2 : w.heap.size = w2.heap.size := by rw [← hw2]; rfl
  have b2 : Below w2.heap.size w w2 := by rw [← hw2]; exact belowDrew (Below.refl _ _)
  rw [hw2, hz2]
  go_wp2_with fail
  refine bodyPost_ret (v := .agg #[.int .i64 (v 0), .int .i64 (v 1), .int .i64 (v 2), .int .i64 (v 3), .int .i64 (v 4), .int .i64 (v 5), .int .i64 (v 6), .int .i64 (v 7)]) (by simp [results, Try.results28, go_sem]) rfl ⟨rfl, ?_⟩
  rw [hz2]
  exact b2.alloc (Nat.le_refl _) _
end Go.Proofs.Ytngigogaiheckaa
