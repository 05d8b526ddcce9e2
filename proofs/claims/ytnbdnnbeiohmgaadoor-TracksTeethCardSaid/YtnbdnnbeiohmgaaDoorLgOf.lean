/- The document's Of (the cells of runs) and every (the cells of a grid). -/
import Derived.Carry
import Derived.Test.YtnbdnnbeiohmgaaDoorLgA
import Derived.Test.YtnbdnnbeiohmgaaDoorMapA
import Derived.Test.YtnbdnnbeiohmgaaDoorGrCells
namespace Go.Proofs.YtnbdnnbeiohmgaaDoor
open Go.RowKit Go.Shelf

theorem setT : Tryd.prog.underlying 81 = some (.map 77 4) := Tryd.underlying81
theorem isI64_of {x : Int} (h : -9223372036854775808 ≤ x ∧ x ≤ 9223372036854775807) : isI64 x := h

set_option maxRecDepth 100000 in
set_option maxHeartbeats 8000000 in
theorem of_ref (v : Value) (l : List R3) (w : World) (hl : Runs w v l) (hr : ∀ r, r ∈ l → 0 ≤ r.1 ∧ r.1 < 256 ∧ 0 ≤ r.2.1 ∧ r.2.2 ≤ 256) (hlen : l.length ≤ 8192) :
    Calls Tryd.prog 30 #[v] w fun e w' => (∃ b N, e = .returned (.map (some b)) ∧ SetC w' b N (hasL l) ∧ w.heap.size ≤ b) ∧ Below w.heap.size w w' := by
  have hmm := @run_makeMap Tryd.prog
  obtain ⟨A, c, rfl, -, h2, h3⟩ := hl
  unfold maxLen at h2
  obtain ⟨n, hn⟩ : ∃ n, l.length = n := ⟨_, rfl⟩
  rw [hn] at h3 hlen ⊢
  have H3 := Lib.hid h3
  have HR := Lib.hid hr
  have HN := Lib.hid hn
  clear h3 hr hn
  go_enter Tryd.func30, Tryd.ntmps30
  go_wp2_with fail
  have hS0 := SetC.made w
  have b1 : Below w.heap.size w (w.alloc (.map #[] 0)) := (Below.refl _ _).alloc (Nat.le_refl _) _
  obtain ⟨w1, hw1⟩ : ∃ w1, w.alloc (.map #[] 0) = w1 := ⟨_, rfl⟩
  rw [hw1] at hS0 b1 ⊢
  obtain ⟨B, hB⟩ : ∃ B, w.heap.size = B := ⟨_, rfl⟩
  rw [hB] at hS0 b1 ⊢
  clear hw1 hmm
  go_loopw [4] (fun i wr => ∃ k : Nat, k ≤ n ∧ i = .int .i64 k ∧ (∃ N, SetC wr B N (hasL (l.take k)) ∧ N ≤ 256 * k) ∧ Below B w wr) (fun i _ => n - (intOf i).toNat)
  case atStart => exact ⟨0, Nat.zero_le _, rfl, ⟨0, hS0.ext (fun x y => by simp [hasL]), by omega⟩, b1⟩
  case round =>
    obtain ⟨k, hk, rfl, ⟨N, hS, hN⟩, hb⟩ := hrel
    clear hS0 b1
    by_cases hlt : k < n
    · obtain ⟨⟨y, f, t⟩, hx⟩ : ∃ x, l[k]? = some x := ⟨_, List.getElem?_eq_getElem (by rw [HN.out]; exact hlt)⟩
      have hrr := HR.out _ (List.mem_of_getElem? hx)
      dsimp only at hrr
      obtain ⟨b, off, rfl, hbl, hcs⟩ := H3.out (by omega)
      have m0 := (hb.cell (p := ⟨b, off + k * 3, none⟩) (by show b < B; omega)).trans (hcs k 0 _ _ hx rfl)
      have m1 := (hb.cell (p := ⟨b, off + k * 3 + 1, none⟩) (by show b < B; omega)).trans (hcs k 1 _ _ hx rfl)
      have m2 := (hb.cell (p := ⟨b, off + k * 3 + 2, none⟩) (by show b < B; omega)).trans (hcs k 2 _ _ hx rfl)
      have hkn : (k : Int) < (n : Int) := by omega
      have htk : ∀ p q, hasL (l.take (k + 1)) p q = (hasL (l.take k) p q || hasR p q (y, f, t)) := fun p q => by
        rw [List.take_add_one, hx]
        simp [hasL]
      have HTK := Lib.hid htk
      have HC := Lib.hid hcs
      have HX := Lib.hid hx
      clear hcs hx htk
      go_wp2_with fail
      have hbw : b < wr.heap.size := by have := hb.size; omega
      go_loopw [5] (fun i wq => ∃ x : Int, i = .int .i64 x ∧ f ≤ x ∧ (f < x → x ≤ t) ∧ (∃ M, SetC wq B M (fun p q => hasL (l.take k) p q || (decide (q = y) && decide (f ≤ p) && decide (p < x))) ∧ (M : Int) ≤ N + (x - f)) ∧ Below B w wq) (fun i _ => (256 - intOf i).toNat)
      case atStart => exact ⟨f, rfl, Int.le_refl _, fun h => by omega, ⟨N, hS.ext (fun p q => by
        have : (decide (f ≤ p) && decide (p < f)) = false := by simp <;> omega
        rw [Bool.and_assoc, this, Bool.and_false, Bool.or_false]), by omega⟩, hb⟩
      case round =>
        obtain ⟨x, rfl, hx1, hx2, ⟨M, hSM, hM⟩, hbq⟩ := hrel
        clear hS hb m0 m1 m2
        have m0 := (hbq.cell (p := ⟨b, off + k * 3, none⟩) (by show b < B; omega)).trans (HC.out k 0 _ _ HX.out rfl)
        have m1 := (hbq.cell (p := ⟨b, off + k * 3 + 1, none⟩) (by show b < B; omega)).trans (HC.out k 1 _ _ HX.out rfl)
        have m2 := (hbq.cell (p := ⟨b, off + k * 3 + 2, none⟩) (by show b < B; omega)).trans (HC.out k 2 _ _ HX.out rfl)
        by_cases hxt : x < t
        · have hMl : M < maxLen := by unfold maxLen; omega
          have ix : isI64 x := isI64_of (by omega)
          have iy : isI64 y := isI64_of (by omega)
          go_wp2_with (at_mapUpdate; refine wpList_update_setC _ rfl _ _ _ 81 rfl setT B M _ rfl hSM hMl x y true rfl rfl ix iy ?_; intro w5 hS5 hg5)
          go_roundw
          case rel =>
            refine ⟨x + 1, by go_num, by omega, fun _ => by omega, ⟨M + 1, hS5.ext (fun p q => ?_), by push_cast; omega⟩, hbq.grown hg5 (by have := hbq.size; omega) (fun j hj => by cases hj; exact Nat.le_refl _)⟩
            by_cases e : p = x ∧ q = y
            · rw [if_pos e]
              obtain ⟨rfl, rfl⟩ := e
              have : (decide (q = q) && decide (f ≤ p) && decide (p < p + 1)) = true := by simp; omega
              rw [this, Bool.or_true]
            · rw [if_neg e]
              congr 1
              have : (decide (q = y) && decide (f ≤ p) && decide (p < x)) = (decide (q = y) && decide (f ≤ p) && decide (p < x + 1)) := by
                rw [Bool.eq_iff_iff]
                simp only [Bool.and_eq_true, decide_eq_true_eq]
                omega
              exact this
          case measure => simp [intOf]; omega
        · go_wp2_with fail
          go_roundw
          case rel =>
            refine ⟨k + 1, by omega, by go_num, ⟨M, hSM.ext (fun p q => ?_), by omega⟩, hbq⟩
            rw [HTK.out]
            congr 1
            rw [Bool.eq_iff_iff, hasR_iff]
            simp only [Bool.and_eq_true, decide_eq_true_eq]
            omega
          case measure => simp [intOf]; omega
    · have hke : k = n := by omega
      subst hke
      rw [List.take_of_length_le (by have := HN.out; omega)] at hS
      have HS := Lib.hid hS
      clear hS
      go_wp2_with fail
      go_ret
      exact ⟨⟨B, N, rfl, HS.out, by first | exact Nat.le_refl _ | (rw [hB]; exact Nat.le_refl _)⟩, by first | exact hb | (rw [hB]; exact hb)⟩
end Go.Proofs.YtnbdnnbeiohmgaaDoor
