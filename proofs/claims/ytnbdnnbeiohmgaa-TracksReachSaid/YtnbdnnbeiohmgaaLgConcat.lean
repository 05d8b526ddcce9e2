/- slices.Grow of nil; slices.Concat of two lists of runs, neither empty. -/
import Derived.Test.YtnbdnnbeiohmgaaGrOthers
import Derived.Lib.AppendZeros
import Derived.Deep.Slices
namespace Go.Proofs.Ytnbdnnbeiohmgaa
open Go.RowKit Go.Shelf Go.Lib

theorem flatE_inv {α : Type} {enc : α → List Value} {k : Nat} (hk : ∀ x, (enc x).length = k) (h0 : 0 < k) {l : List α} {j : Nat} {u : Value} (h : (flatE enc l)[j]? = some u) : ∃ x, l[j / k]? = some x ∧ (enc x)[j % k]? = some u := by
  have hlt : j < (flatE enc l).length := (List.getElem?_eq_some_iff.1 h).1
  rw [flatE_length hk] at hlt
  have hd : j / k < l.length := Nat.div_lt_of_lt_mul (by rw [Nat.mul_comm]; exact hlt)
  have hm := Nat.mod_lt j h0
  obtain ⟨x, hx⟩ : ∃ x, l[j / k]? = some x := ⟨_, List.getElem?_eq_getElem hd⟩
  obtain ⟨v, hv⟩ : ∃ v, (enc x)[j % k]? = some v := ⟨_, List.getElem?_eq_getElem (by rw [hk x]; exact hm)⟩
  have h2 := flatE_get hk l (j / k) (j % k) x v hx hv
  rw [show j / k * k + j % k = j by rw [Nat.mul_comm]; exact Nat.div_add_mod j k] at h2
  rw [h] at h2
  exact ⟨x, hx, by rw [hv]; exact h2.symm⟩
theorem add_pl (b o j : Nat) : (⟨b, o, none⟩ : Addr).add j = ⟨b, o + j, none⟩ := by
  unfold Addr.add
  split <;> simp_all
/-- a list's cells lie at its address -/
theorem runs_news {w : World} {b off n c : Nat} {l : List R3} (h : Runs w (.slice (some ⟨b, off, none⟩) n c) l) (h0 : 0 < l.length) : ∀ j u, (flatE encR l)[j]? = some u → w.cell? ((⟨b, off, none⟩ : Addr).add j) = some u := by
  intro j u hj
  obtain ⟨A', c', e, -, -, h3⟩ := h
  cases e
  obtain ⟨b', o', e', -, hc⟩ := h3 h0
  cases e'
  obtain ⟨x, hx, hu⟩ := flatE_inv encR_len (by omega) hj
  have := hc (j / 3) (j % 3) x u hx hu
  rw [show off + j / 3 * 3 + j % 3 = off + j by omega] at this
  rw [add_pl]
  exact this

set_option maxRecDepth 100000 in
set_option maxHeartbeats 4000000 in
theorem growSl (n : Nat) (w : World) (h0 : 0 < n) (hn : n ≤ 1000000) :
    Calls Try.prog 113 #[.slice none 0 0, .int .i64 (n : Int)] w fun e w' => (∃ v, e = .returned v ∧ w'.ownsRow w.heap.size 72 3 v 0 []) ∧ Below w.heap.size w w' := by
  obtain ⟨i0, hi, hz0, hz1, hz2⟩ := info_parts infoRun
  have hrun := run_append_nil_zeros (P := Try.prog) w 22 3 22 72 i0 _ .i64 .i64 Try.underlying22 Try.underlying3 hi hz0 n h0 (by rw [hz1]; omega) (by omega) (by rw [hz2]; omega)
  have hge := grownCap_ge w n 0 72
  have hle := grownCap_le_maxLen w n 0 72 (by unfold maxLen; omega)
  obtain ⟨cp, hcp⟩ : ∃ c, grownCap w n 0 72 = c := ⟨_, rfl⟩
  rw [hcp] at hrun hge hle
  obtain ⟨cs, hcs⟩ : ∃ cs, (Builtin.zeroCells (Value.agg #[.int .i64 0, .int .i64 0, .int .i64 0]).cells n ++ Builtin.zeroCells (Value.agg #[.int .i64 0, .int .i64 0, .int .i64 0]).cells (cp - n)) = cs := ⟨_, rfl⟩
  have hcz : cs.size = cp * 3 := by
    rw [← hcs]
    simp only [Array.size_append, size_zeroCells, Value.cells]
    have : (#[Value.int .i64 0, .int .i64 0, .int .i64 0] : Array Value).size = 3 := rfl
    rw [this, ← Nat.add_mul]
    congr 1
    omega
  have hrun' := hrun
  rw [hcs] at hrun'
  have HR := Lib.hid hrun'
  clear hrun hrun' hcs
  have hn1 : (0 : Int) < (n : Int) := by omega
  go_enter Try.func113, Try.ntmps113
  go_wp2_with (at_builtin; refine Lib.wpList_append_run _ rfl _ _ _ _ rfl _ _ rfl rfl _ _ HR.out ?_)
  go_ret
  refine ⟨⟨_, rfl, rfl, .inr ⟨w.heap.size, cp, cs, rfl, Nat.le_refl _, ?_, Nat.zero_le _, hle, hcz, by simp⟩⟩, belowDrew ((Below.refl _ _).alloc (Nat.le_refl _) _)⟩
  exact heap_alloc_new w _

theorem flat_one (l : List R3) : ∀ u, u ∈ flatE encR l → u.oneCell' = true := by
  intro u hu
  unfold flatE at hu
  rw [List.mem_flatMap] at hu
  obtain ⟨x, -, hx⟩ := hu
  simp [encR] at hx
  rcases hx with rfl | rfl | rfl <;> rfl
set_option maxRecDepth 100000 in
set_option maxHeartbeats 8000000 in
theorem concat_gr (va vb : Value) (a b : List R3) (X : Nat) (w : World) (h : Lst 1 enc1 w (.slice (some ⟨X, 0, none⟩) 2 2) [va, vb]) (ha : Runs w va a) (hb : Runs w vb b) (ha0 : 0 < a.length) (hb0 : 0 < b.length) (hlen : a.length + b.length ≤ 1000000) :
    Calls Try.prog 65 #[.slice (some ⟨X, 0, none⟩) 2 2] w fun e w' => (∃ v, e = .returned v ∧ Runs w' v (a ++ b) ∧ ∀ g, v.ownBlock = some g → w.heap.size ≤ g ∧ g < w'.heap.size) ∧ Below w.heap.size w w' := by
  obtain ⟨A', c', e', -, -, h3⟩ := h
  cases e'
  obtain ⟨b', o', e', hXl, hc⟩ := h3 (by simp)
  cases e'
  have x0 : w.cell? ⟨X, 0, none⟩ = some va := by simpa using hc 0 0 va va rfl rfl
  have x1 : w.cell? ⟨X, 1, none⟩ = some vb := by simpa using hc 1 0 vb vb rfl rfl
  clear hc h3
  have HA := Lib.hid ha
  have HB := Lib.hid hb
  obtain ⟨Aa, ca, rfl, -, -, h3⟩ := ha
  obtain ⟨ba, oa, rfl, hba, -⟩ := h3 ha0
  obtain ⟨Ab, cb, rfl, -, -, h4⟩ := hb
  obtain ⟨bb, ob, rfl, hbb, -⟩ := h4 hb0
  clear h3 h4
  obtain ⟨na, hna⟩ : ∃ n, a.length = n := ⟨_, rfl⟩
  obtain ⟨nb, hnb⟩ : ∃ n, b.length = n := ⟨_, rfl⟩
  rw [hna] at HA ha0 hlen x0
  rw [hnb] at HB hb0 hlen x1
  have HNa := Lib.hid hna
  have HNb := Lib.hid hnb
  clear hna hnb
  go_enter Try.func65, Try.ntmps65
  go_wp2_with fail
  go_loopw [3, 11] (fun sz i wr => w = wr ∧ ((i = .int .i64 0 ∧ sz = .int .i64 0) ∨ (i = .int .i64 1 ∧ sz = .int .i64 (na : Int)) ∨ (i = .int .i64 2 ∧ sz = .int .i64 ((na + nb : Nat) : Int)))) (fun _ i _ => 2 - (intOf i).toNat)
  case atStart => exact ⟨rfl, .inl ⟨rfl, rfl⟩⟩
  case round =>
    obtain ⟨rfl, ⟨rfl, rfl⟩ | ⟨rfl, rfl⟩ | ⟨rfl, rfl⟩⟩ := hrel
    · have e1 : ¬ (na : Int) < 0 := by omega
      go_wp2_with fail
      go_roundw
      case rel => exact ⟨by first | rfl | trivial, .inr (.inl ⟨rfl, rfl⟩)⟩
      case measure => simp [intOf]
    · have e1 : ¬ (na : Int) + (nb : Int) < 0 := by omega
      go_wp2_with fail
      go_roundw
      case rel => exact ⟨by first | rfl | trivial, .inr (.inr ⟨rfl, by go_num⟩)⟩
      case measure => simp [intOf]
    · go_wp2_with fail
      refine (growSl (na + nb) _ (by omega) (by omega)).mono ?_
      rintro e w2 ⟨⟨v2, rfl, hown⟩, hb2⟩
      obtain ⟨Bw, hBw⟩ : ∃ B, w.heap.size = B := ⟨_, rfl⟩
      rw [hBw] at hown hb2 hXl hba hbb
      go_wp2_with fail
      go_loopw [6, 27] (fun vo i wq => ((i = .int .i64 0 ∧ wq.ownsRow Bw 72 3 vo 0 []) ∨ (i = .int .i64 1 ∧ wq.ownsRow Bw 72 3 vo na (flatE encR a)) ∨ (i = .int .i64 2 ∧ wq.ownsRow Bw 72 3 vo (na + nb) (flatE encR (a ++ b)))) ∧ Below Bw w wq ∧ Bw ≤ wq.heap.size) (fun _ i _ => 2 - (intOf i).toNat)
      case atStart => exact ⟨.inl ⟨rfl, hown⟩, hb2, by have := hb2.size; omega⟩
      case round =>
        obtain ⟨hall, hb, hz⟩ := hrel
        obtain ⟨i0, hi, hz0, hz1, hz2⟩ := info_parts infoRun
        have x0 := (hb.cell (p := ⟨X, 0, none⟩) hXl).trans x0
        have x1 := (hb.cell (p := ⟨X, 1, none⟩) hXl).trans x1
        have HAr := Lib.hid (HA.out.below (by rw [hBw]; exact hb))
        have HBr := Lib.hid (HB.out.below (by rw [hBw]; exact hb))
        obtain ⟨rfl, hown⟩ | ⟨rfl, hown⟩ | ⟨rfl, hown⟩ := hall
        · have hfl : (flatE encR a).length = na * 3 := by rw [flatE_length encR_len, HNa.out]
          have HFL := Lib.hid hfl
          clear hfl
          go_wp2_with (at_builtin; refine wpList_append_lies _ rfl _ _ _ rfl Bw 72 i0 _ 3 24 Try.underlying22 hi hz0 hz1 hz2 rfl (by omega) _ 0 [] rfl hown ⟨ba, oa, none⟩ na ca (flatE encR a) rfl HFL.out (runs_news HAr.out (by rw [HNa.out]; exact ha0)) (flat_one _) ha0 (by unfold maxLen; omega) (by omega) hz wr.heap.size rfl ?_; intro gg cap5 w5 hown5 hgrow hat hlt5)
          go_roundw
          case rel => exact ⟨.inr (.inl ⟨rfl, by simpa using hown5⟩), hb.grown hgrow hz (fun q hq => (ownBlock_lt hown hq).1), by have := hgrow.size; omega⟩
          case measure => simp [intOf]
        · have hfl : (flatE encR b).length = nb * 3 := by rw [flatE_length encR_len, HNb.out]
          have HFL := Lib.hid hfl
          clear hfl
          go_wp2_with (at_builtin; refine wpList_append_lies _ rfl _ _ _ rfl Bw 72 i0 _ 3 24 Try.underlying22 hi hz0 hz1 hz2 rfl (by omega) _ na (flatE encR a) rfl hown ⟨bb, ob, none⟩ nb cb (flatE encR b) rfl HFL.out (runs_news HBr.out (by rw [HNb.out]; exact hb0)) (flat_one _) hb0 (by unfold maxLen; omega) (by omega) hz wr.heap.size rfl ?_; intro gg cap5 w5 hown5 hgrow hat hlt5)
          go_roundw
          case rel => exact ⟨.inr (.inr ⟨rfl, by rw [flatE_append]; exact hown5⟩), hb.grown hgrow hz (fun q hq => (ownBlock_lt hown hq).1), by have := hgrow.size; omega⟩
          case measure => simp [intOf]
        · have hfin := Lst_of_own encR_len hown (by rw [List.length_append, HNa.out, HNb.out])
          have hob := fun g hg => ownBlock_lt hown (g := g) hg
          have HF := Lib.hid hfin
          have HOB := Lib.hid hob
          clear hown hfin hob
          go_wp2_with fail
          go_ret
          exact ⟨⟨_, rfl, HF.out, by first | exact HOB.out | (rw [hBw]; exact HOB.out)⟩, by first | exact hb | (rw [hBw]; exact hb)⟩
end Go.Proofs.Ytnbdnnbeiohmgaa
