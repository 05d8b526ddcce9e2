/- share: Join. -/
import Derived.Test.YtngigogaiheckaaShVec
namespace Go.Proofs.Ytngigogaiheckaa
open Go.RowKit Go.Lib Go.Maps

def maxV (f g : Nat → Nat) : Nat → Nat := fun c => max (f c) (g c)
def maxTo (f g : Nat → Nat) (k : Nat) : Nat → Nat := fun c => if c < k then max (f c) (g c) else f c
theorem maxTo_zero (f g : Nat → Nat) : maxTo f g 0 = f := rfl
theorem maxTo_step (f g : Nat → Nat) (k : Nat) : updN (maxTo f g k) k (max (maxTo f g k k) (g k)) = maxTo f g (k + 1) := by
  funext c
  unfold updN maxTo
  by_cases e : c = k
  · subst e
    simp
  · rw [if_neg e]
    by_cases h : c < k
    · rw [if_pos h, if_pos (by omega)]
    · rw [if_neg h, if_neg (by omega)]
theorem maxTo_all (f g : Nat → Nat) : encV (maxTo f g 8) = encV (maxV f g) := rfl
theorem valTo_all (f g : Nat → Nat) : valV (maxTo f g 8) = valV (maxV f g) := rfl
set_option maxRecDepth 100000 in
set_option maxHeartbeats 1000000 in
theorem join_bad (va vb : Value) (la lb : List Int) (w : World) (ha : Lst 1 encI w va la) (hb : Lst 1 encI w vb lb) (hbad : (vecOK la && vecOK lb) = false) :
    Calls Try.prog 19 #[va, vb] w fun e w' => e = .returned (.tuple #[.slice none 0 0, .int .i64 2]) ∧ Below w.heap.size w w' := by
  have h1 : ∀ W, Below w.heap.size w W → Calls Try.prog 30 #[va] W fun e w' => ∃ f, e = .returned (.tuple #[.agg (arrV f), .bool (vecOK la)]) ∧ Below w.heap.size w w' := fun W hW => by
    cases q : vecOK la with
    | true => exact (vectored_ok va la W (ha.below hW) q).mono fun e w' ⟨h1, h2⟩ => ⟨vecN la, h1, hW.trans (h2.mono hW.size)⟩
    | false => exact (vectored_bad va la W (ha.below hW) q).mono fun e w' ⟨h1, h2⟩ => ⟨fun _ => 0, h1, hW.trans (h2.mono hW.size)⟩
  have h2 : ∀ W, Below w.heap.size w W → Calls Try.prog 30 #[vb] W fun e w' => ∃ f, e = .returned (.tuple #[.agg (arrV f), .bool (vecOK lb)]) ∧ Below w.heap.size w w' := fun W hW => by
    cases q : vecOK lb with
    | true => exact (vectored_ok vb lb W (hb.below hW) q).mono fun e w' ⟨h1, h2⟩ => ⟨vecN lb, h1, hW.trans (h2.mono hW.size)⟩
    | false => exact (vectored_bad vb lb W (hb.below hW) q).mono fun e w' ⟨h1, h2⟩ => ⟨fun _ => 0, h1, hW.trans (h2.mono hW.size)⟩
  unfold arrV at h1 h2
  have H1 := Lib.hid h1
  have H2 := Lib.hid h2
  generalize vecOK la = p at *
  generalize vecOK lb = q at *
  clear h1 h2 ha hb
  go_enter Try.func19, Try.ntmps19
  go_wp2_with fail
  refine (H1.out w (Below.refl _ _)).mono ?_
  rintro e w1 ⟨f, rfl, hb1⟩
  go_wp2_with fail
  refine (H2.out _ (hb1.alloc hb1.size _)).mono ?_
  rintro e w2 ⟨g, rfl, hb2⟩
  cases p <;> cases q <;> simp at hbad <;> go_wp2_with fail
  all_goals
    refine bodyPost_ret (v := .tuple #[.slice none 0 0, .int .i64 2]) (by simp [results, Try.results19, go_sem]) rfl ⟨rfl, hb2.alloc hb2.size _⟩
set_option maxRecDepth 100000 in
set_option maxHeartbeats 1000000 in
theorem join_ok (va vb : Value) (la lb : List Int) (w : World) (ha : Lst 1 encI w va la) (hb : Lst 1 encI w vb lb) (oka : vecOK la = true) (okb : vecOK lb = true) :
    Calls Try.prog 19 #[va, vb] w fun e w' => ∃ v, e = .returned (.tuple #[v, .int .i64 0]) ∧ w'.ownsRow w.heap.size 3 1 v 8 (encV (maxV (vecN la) (vecN lb))) ∧ Below w.heap.size w w' := by
  have h1 := vectored_ok va la w ha oka
  have h2 : ∀ W, Below w.heap.size w W → Calls Try.prog 30 #[vb] W fun e w' => e = .returned (.tuple #[valV (vecN lb), .bool true]) ∧ Below W.heap.size W w' := fun W hW => vectored_ok vb lb W (hb.below hW) okb
  have h3 : ∀ W, Calls Try.prog 29 #[valV (maxTo (vecN la) (vecN lb) 8)] W fun e w' => ∃ v, e = .returned v ∧ w'.ownsRow W.heap.size 3 1 v 8 (encV (maxV (vecN la) (vecN lb))) ∧ Below W.heap.size W w' := fun W => list_sh (maxTo (vecN la) (vecN lb) 8) W
  generalize vecN la = f at *
  generalize vecN lb = g at *
  have hix := ix_v g
  unfold valV at h1 h2 h3
  unfold arrV at hix
  have H1 := Lib.hid h1
  have H2 := Lib.hid h2
  have H3 := Lib.hid h3
  have HX := Lib.hid hix
  clear h1 h2 h3 hix ha hb
  go_enter Try.func19, Try.ntmps19
  go_wp2_with fail
  refine H1.out.mono ?_
  rintro e w1 ⟨rfl, hb1⟩
  go_wp2_with fail
  obtain ⟨W1, hW1⟩ : ∃ W, w1.alloc (.cells (arrV f) 62) = W := ⟨_, rfl⟩
  have hr : VecAt W1 w1.heap.size f := by
    rw [← hW1]
    exact heap_alloc_new w1 _
  have hb2 : Below w.heap.size w W1 := by
    rw [← hW1]
    exact hb1.alloc hb1.size _
  unfold arrV at hW1
  rw [hW1]
  have hX : w.heap.size ≤ w1.heap.size := hb1.size
  clear hW1
  obtain ⟨X, hXe⟩ : ∃ X, w1.heap.size = X := ⟨_, rfl⟩
  rw [hXe] at hr hX ⊢
  clear hXe
  refine (H2.out _ hb2).mono ?_
  rintro e w2 ⟨rfl, hb3⟩
  have hr := hr.of_block (hb3.block X hr.lt)
  have hb3 := hb2.trans (hb3.mono hb2.size)
  go_wp2_with fail
  have hr := hr.of_block (Below.heap_alloc w2 (.cells #[.int .i64 (g 0), .int .i64 (g 1), .int .i64 (g 2), .int .i64 (g 3), .int .i64 (g 4), .int .i64 (g 5), .int .i64 (g 6), .int .i64 (g 7)] 62) X hr.lt)
  have hb4 := hb3.alloc hb3.size (.cells #[.int .i64 (g 0), .int .i64 (g 1), .int .i64 (g 2), .int .i64 (g 3), .int .i64 (g 4), .int .i64 (g 5), .int .i64 (g 6), .int .i64 (g 7)] 62)
  go_loopw [29] (fun i wr => ∃ k : Nat, k ≤ 8 ∧ i = .int .i64 k ∧ VecAt wr X (maxTo f g k) ∧ Below w.heap.size w wr) (fun i _ => 8 - (intOf i).toNat)
  case atStart => exact ⟨0, by omega, rfl, by rw [maxTo_zero]; exact hr, hb4⟩
  case round =>
    obtain ⟨k, hk, rfl, hrk, hbk⟩ := hrel
    by_cases hlt : k < 8
    · have hix := HX.out k hlt
      have x0 := hrk.cell hlt
      have xf := hrk.frozen k
      have hk1 : (0 : Int) ≤ k := by omega
      have hk2 : (k : Int) < 8 := by omega
      go_wp2_with fail
      go_roundw
      case rel =>
        refine ⟨k + 1, by omega, by rw [Int.natCast_add]; rfl, ?_, hbk.setCell hX _⟩
        have := hrk.set hlt (max (maxTo f g k k) (g k))
        rw [maxTo_step] at this
        rw [show ((max (maxTo f g k k) (g k) : Nat) : Int) = max ((maxTo f g k k : Nat) : Int) (g k : Int) by omega] at this
        exact this
      case measure =>
        simp [intOf]
        omega
    · obtain rfl : k = 8 := by omega
      have y0 := hrk.cell (c := 0) (by omega)
      have y1 := hrk.cell (c := 1) (by omega)
      have y2 := hrk.cell (c := 2) (by omega)
      have y3 := hrk.cell (c := 3) (by omega)
      have y4 := hrk.cell (c := 4) (by omega)
      have y5 := hrk.cell (c := 5) (by omega)
      have y6 := hrk.cell (c := 6) (by omega)
      have y7 := hrk.cell (c := 7) (by omega)
      have h3 := H3.out wr
      generalize maxTo f g 8 = u at *
      go_wp2_with fail
      refine h3.mono ?_
      rintro e w3 ⟨v, rfl, hv, hb5⟩
      go_wp2_with fail
      refine bodyPost_ret (v := .tuple #[v, .int .i64 0]) (by simp [results, Try.results19, go_sem]) rfl ⟨v, rfl, ownsMono hv hbk.size, hbk.trans (hb5.mono hbk.size)⟩
end Go.Proofs.Ytngigogaiheckaa
