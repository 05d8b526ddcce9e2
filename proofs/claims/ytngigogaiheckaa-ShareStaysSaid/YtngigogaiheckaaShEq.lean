/- share: the reference's comparisons: Ints, Shows. -/
import Derived.Test.YtngigogaiheckaaShAt
namespace Go.Proofs.Ytngigogaiheckaa
open Go.RowKit Go.Shelf Go.Lib Go.Maps

def valW (x : Sd × Int) : Value := .agg #[.int .i64 x.1.c, .int .i64 x.1.n, .string x.1.key, .string x.1.val, .int .i64 x.1.time, .int .i64 x.1.trust, .int .i64 x.1.back, .int .i64 x.2]
set_option maxRecDepth 100000 in
theorem neq_w (a b : Sd × Int) (w : World) : (binOp BinOp.neq 44 (valW a) (valW b)).run Try.prog w = .ok (.bool (!decide (a = b))) w := by
  unfold valW
  simp [go_sem, toList_eq_iff]
  obtain ⟨⟨a1, a2, a3, a4, a5, a6, a7⟩, a8⟩ := a
  obtain ⟨⟨b1, b2, b3, b4, b5, b6, b7⟩, b8⟩ := b
  simp only [Sd.mk.injEq, Prod.mk.injEq]
  by_cases h1 : a1 = b1
  · by_cases h2 : a2 = b2
    · by_cases h3 : a3 = b3
      · by_cases h4 : a4 = b4
        · by_cases h5 : a5 = b5
          · by_cases h6 : a6 = b6
            · by_cases h7 : a7 = b7
              · by_cases h8 : a8 = b8 <;> simp [h1, h2, h3, h4, h5, h6, h7, h8]
              · simp [h1, h2, h3, h4, h5, h6, h7]
            · simp [h1, h2, h3, h4, h5, h6]
          · simp [h1, h2, h3, h4, h5]
        · simp [h1, h2, h3, h4]
      · simp [h1, h2, h3]
    · simp [h1, h2]
  · simp [h1]
theorem Lst.at {α : Type} {k : Nat} {enc : α → List Value} {w : World} {A : Option Addr} {n c : Nat} {l : List α} (h : Lst k enc w (.slice A n c) l) (hl : 0 < l.length) : ∃ b off, A = some ⟨b, off, none⟩ ∧ b < w.heap.size ∧ ∀ (j i : Nat) (x : α) (u : Value), l[j]? = some x → (enc x)[i]? = some u → w.cell? ⟨b, off + j * k + i, none⟩ = some u := by
  obtain ⟨A', c', e, -, -, h3⟩ := h
  cases e
  exact h3 hl
theorem take_eq {α : Type} {la lb : List α} {k : Nat} {x y : α} (h : la.take k = lb.take k) (hx : la[k]? = some x) (hy : lb[k]? = some y) (e : x = y) : la.take (k + 1) = lb.take (k + 1) := by
  rw [take_succ' hx, take_succ' hy, h, e]
set_option maxRecDepth 100000 in
set_option maxHeartbeats 4000000 in
theorem ints_sh (va vb : Value) (la lb : List Int) (w : World) (ha : Lst 1 encI w va la) (hb : Lst 1 encI w vb lb) :
    Calls Try.prog 15 #[va, vb] w fun e w' => e = .returned (.bool (decide (la = lb))) ∧ Below w.heap.size w w' := by
  obtain ⟨A, ca, rfl, hl1, hm, -⟩ := id ha
  obtain ⟨B, cb, rfl, hl2, hm2, -⟩ := id hb
  unfold maxLen at hm hm2
  have HA := Lib.hid ha
  have HB := Lib.hid hb
  clear ha hb
  obtain ⟨na, hna⟩ : ∃ n, la.length = n := ⟨_, rfl⟩
  obtain ⟨nb, hnb⟩ : ∃ n, lb.length = n := ⟨_, rfl⟩
  have HNA := Lib.hid hna
  have HNB := Lib.hid hnb
  rw [hna] at hl1 ⊢
  rw [hnb] at hl2 ⊢
  clear hna hnb
  go_enter Try.func15, Try.ntmps15
  by_cases hn : na = nb
  · subst hn
    go_wp2_with fail
    go_loopw [5] (fun i wr => ∃ k : Nat, k ≤ na ∧ i = .int .i64 k ∧ la.take k = lb.take k ∧ Below w.heap.size w wr) (fun i _ => na - (intOf i).toNat)
    case atStart => exact ⟨0, Nat.zero_le _, rfl, by simp, Below.refl _ _⟩
    case round =>
      obtain ⟨k, hk, rfl, heq, hbr⟩ := hrel
      by_cases hlt : k < na
      · have h1 := HNA.out
        have h2 := HNB.out
        obtain ⟨x, hx⟩ : ∃ x, la[k]? = some x := ⟨_, List.getElem?_eq_getElem (by omega)⟩
        obtain ⟨y, hy⟩ : ∃ y, lb[k]? = some y := ⟨_, List.getElem?_eq_getElem (by omega)⟩
        obtain ⟨b1, o1, rfl, hb1, hc1⟩ := HA.out.at (by omega)
        obtain ⟨b2, o2, rfl, hb2, hc2⟩ := HB.out.at (by omega)
        have x0 := (hbr.cell (p := ⟨b1, o1 + k * 1 + 0, none⟩) hb1).trans (hc1 k 0 _ _ hx rfl)
        have y0 := (hbr.cell (p := ⟨b2, o2 + k * 1 + 0, none⟩) hb2).trans (hc2 k 0 _ _ hy rfl)
        simp only [Nat.mul_one, Nat.add_zero] at x0 y0
        have hk1 : (k : Int) < na := by omega
        have hk0 : (0 : Int) ≤ k := by omega
        have hwk : IntKind.i64.wrap ((k : Int) + 1) = k + 1 := wrapK _ (by omega) (by omega)
        clear hc1 hc2
        go_upto_region 6 with fail
        go_quiet (fail)
        by_cases hxy : x = y
        · have hb1' : (x != y) = false := by simp [hxy]
          rw [hb1']
          go_wp2_with fail
          go_roundw
          case rel => exact ⟨k + 1, by omega, by go_num, take_eq heq hx hy hxy, belowDrewN hbr nq⟩
          case measure => simp [intOf]; omega
        · have hb1' : (x != y) = true := by simp [hxy]
          rw [hb1']
          have hd : decide (la = lb) = false := by
            rw [decide_eq_false_iff_not]
            rintro rfl
            rw [hx] at hy
            exact hxy (Option.some.inj hy)
          go_wp2_with fail
          go_ret
          rw [hd]
          exact ⟨rfl, belowDrewN hbr nq⟩
      · obtain rfl : k = na := by omega
        have h1 := HNA.out
        have h2 := HNB.out
        rw [List.take_of_length_le (by omega), List.take_of_length_le (by omega)] at heq
        have hd : decide (la = lb) = true := by simp [heq]
        have hkk : ((k : Int) < k) = False := by simp
        go_wp2_with fail
        go_ret
        rw [hd]
        exact ⟨rfl, hbr⟩
  · have hne : decide (la = lb) = false := by
      rw [decide_eq_false_iff_not]
      intro e
      exact hn (by rw [← HNA.out, ← HNB.out, e])
    have hni : ((na : Int) = nb) = False := by simp only [eq_iff_iff, iff_false]; omega
    go_wp2_with fail
    go_ret
    rw [hne]
    exact ⟨rfl, Below.refl _ _⟩
set_option maxRecDepth 100000 in
set_option maxHeartbeats 4000000 in
theorem shows_sh (va vb : Value) (la lb : List (Sd × Int)) (w : World) (ha : Lst 8 encW w va la) (hb : Lst 8 encW w vb lb) :
    Calls Try.prog 13 #[va, vb] w fun e w' => e = .returned (.bool (decide (la = lb))) ∧ Below w.heap.size w w' := by
  obtain ⟨A, ca, rfl, hl1, hm, -⟩ := id ha
  obtain ⟨B, cb, rfl, hl2, hm2, -⟩ := id hb
  unfold maxLen at hm hm2
  have HA := Lib.hid ha
  have HB := Lib.hid hb
  clear ha hb
  obtain ⟨na, hna⟩ : ∃ n, la.length = n := ⟨_, rfl⟩
  obtain ⟨nb, hnb⟩ : ∃ n, lb.length = n := ⟨_, rfl⟩
  have HNA := Lib.hid hna
  have HNB := Lib.hid hnb
  rw [hna] at hl1 ⊢
  rw [hnb] at hl2 ⊢
  clear hna hnb
  go_enter Try.func13, Try.ntmps13
  by_cases hn : na = nb
  · subst hn
    go_wp2_with fail
    go_loopw [5] (fun i wr => ∃ k : Nat, k ≤ na ∧ i = .int .i64 k ∧ la.take k = lb.take k ∧ Below w.heap.size w wr) (fun i _ => na - (intOf i).toNat)
    case atStart => exact ⟨0, Nat.zero_le _, rfl, by simp, Below.refl _ _⟩
    case round =>
      obtain ⟨k, hk, rfl, heq, hbr⟩ := hrel
      by_cases hlt : k < na
      · have h1 := HNA.out
        have h2 := HNB.out
        obtain ⟨x, hx⟩ : ∃ x, la[k]? = some x := ⟨_, List.getElem?_eq_getElem (by omega)⟩
        obtain ⟨y, hy⟩ : ∃ y, lb[k]? = some y := ⟨_, List.getElem?_eq_getElem (by omega)⟩
        obtain ⟨b1, o1, rfl, hb1, hc1⟩ := HA.out.at (by omega)
        obtain ⟨b2, o2, rfl, hb2, hc2⟩ := HB.out.at (by omega)
        have x0 := (hbr.cell (p := ⟨b1, o1 + k * 8 + 0, none⟩) hb1).trans (hc1 k 0 _ _ hx rfl)
        have x1 := (hbr.cell (p := ⟨b1, o1 + k * 8 + 1, none⟩) hb1).trans (hc1 k 1 _ _ hx rfl)
        have x2 := (hbr.cell (p := ⟨b1, o1 + k * 8 + 2, none⟩) hb1).trans (hc1 k 2 _ _ hx rfl)
        have x3 := (hbr.cell (p := ⟨b1, o1 + k * 8 + 3, none⟩) hb1).trans (hc1 k 3 _ _ hx rfl)
        have x4 := (hbr.cell (p := ⟨b1, o1 + k * 8 + 4, none⟩) hb1).trans (hc1 k 4 _ _ hx rfl)
        have x5 := (hbr.cell (p := ⟨b1, o1 + k * 8 + 5, none⟩) hb1).trans (hc1 k 5 _ _ hx rfl)
        have x6 := (hbr.cell (p := ⟨b1, o1 + k * 8 + 6, none⟩) hb1).trans (hc1 k 6 _ _ hx rfl)
        have x7 := (hbr.cell (p := ⟨b1, o1 + k * 8 + 7, none⟩) hb1).trans (hc1 k 7 _ _ hx rfl)
        have y0 := (hbr.cell (p := ⟨b2, o2 + k * 8 + 0, none⟩) hb2).trans (hc2 k 0 _ _ hy rfl)
        have y1 := (hbr.cell (p := ⟨b2, o2 + k * 8 + 1, none⟩) hb2).trans (hc2 k 1 _ _ hy rfl)
        have y2 := (hbr.cell (p := ⟨b2, o2 + k * 8 + 2, none⟩) hb2).trans (hc2 k 2 _ _ hy rfl)
        have y3 := (hbr.cell (p := ⟨b2, o2 + k * 8 + 3, none⟩) hb2).trans (hc2 k 3 _ _ hy rfl)
        have y4 := (hbr.cell (p := ⟨b2, o2 + k * 8 + 4, none⟩) hb2).trans (hc2 k 4 _ _ hy rfl)
        have y5 := (hbr.cell (p := ⟨b2, o2 + k * 8 + 5, none⟩) hb2).trans (hc2 k 5 _ _ hy rfl)
        have y6 := (hbr.cell (p := ⟨b2, o2 + k * 8 + 6, none⟩) hb2).trans (hc2 k 6 _ _ hy rfl)
        have y7 := (hbr.cell (p := ⟨b2, o2 + k * 8 + 7, none⟩) hb2).trans (hc2 k 7 _ _ hy rfl)
        simp only [Nat.add_zero] at x0 y0
        have hneq := fun W => neq_w x y W
        unfold valW at hneq
        obtain ⟨bq, hbq⟩ : ∃ b, (!decide (x = y)) = b := ⟨_, rfl⟩
        rw [hbq] at hneq
        have hk1 : (k : Int) < na := by omega
        have hk0 : (0 : Int) ≤ k := by omega
        have hwk : IntKind.i64.wrap ((k : Int) + 1) = k + 1 := wrapK _ (by omega) (by omega)
        clear hc1 hc2
        go_upto_region 6 with fail
        go_quiet (fail)
        by_cases hxy : x = y
        · have hbq : bq = false := by rw [← hbq]; simp [hxy]
          rw [hbq]
          go_wp2_with fail
          go_roundw
          case rel => exact ⟨k + 1, by omega, by go_num, take_eq heq hx hy hxy, belowDrewN hbr nq⟩
          case measure => simp [intOf]; omega
        · have hbq : bq = true := by rw [← hbq]; simp [hxy]
          rw [hbq]
          have hd : decide (la = lb) = false := by
            rw [decide_eq_false_iff_not]
            rintro rfl
            rw [hx] at hy
            exact hxy (Option.some.inj hy)
          go_wp2_with fail
          go_ret
          rw [hd]
          exact ⟨rfl, belowDrewN hbr nq⟩
      · obtain rfl : k = na := by omega
        have h1 := HNA.out
        have h2 := HNB.out
        rw [List.take_of_length_le (by omega), List.take_of_length_le (by omega)] at heq
        have hd : decide (la = lb) = true := by simp [heq]
        have hkk : ((k : Int) < k) = False := by simp
        go_wp2_with fail
        go_ret
        rw [hd]
        exact ⟨rfl, hbr⟩
  · have hne : decide (la = lb) = false := by
      rw [decide_eq_false_iff_not]
      intro e
      exact hn (by rw [← HNA.out, ← HNB.out, e])
    have hni : ((na : Int) = nb) = False := by simp only [eq_iff_iff, iff_false]; omega
    go_wp2_with fail
    go_ret
    rw [hne]
    exact ⟨rfl, Below.refl _ _⟩
end Go.Proofs.Ytngigogaiheckaa
