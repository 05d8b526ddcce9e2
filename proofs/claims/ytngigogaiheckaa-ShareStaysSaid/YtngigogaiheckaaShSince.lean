/- share: Since. -/
import Derived.Test.YtngigogaiheckaaShIter
namespace Go.Proofs.Ytngigogaiheckaa
open Go.RowKit Go.Shelf Go.Lib Go.Maps

theorem vecN_le {l : List Int} (h : vecOK l = true) (c : Nat) : vecN l c ≤ 1000 := by
  simp only [vecOK, Bool.and_eq_true, decide_eq_true_eq, List.all_eq_true, inB] at h
  unfold vecN
  by_cases hc : c < l.length
  · have := h.2 l[c] (List.getElem_mem hc)
    simp [hc]
    omega
  · simp [hc]
theorem VecAt.cells {w : World} {X : Nat} {v : Nat → Nat} (h : VecAt w X v) : w.cell? ⟨X, 0, none⟩ = some (.int .i64 (v 0)) ∧ w.cell? ⟨X, 1, none⟩ = some (.int .i64 (v 1)) ∧ w.cell? ⟨X, 2, none⟩ = some (.int .i64 (v 2)) ∧ w.cell? ⟨X, 3, none⟩ = some (.int .i64 (v 3)) ∧ w.cell? ⟨X, 4, none⟩ = some (.int .i64 (v 4)) ∧ w.cell? ⟨X, 5, none⟩ = some (.int .i64 (v 5)) ∧ w.cell? ⟨X, 6, none⟩ = some (.int .i64 (v 6)) ∧ w.cell? ⟨X, 7, none⟩ = some (.int .i64 (v 7)) :=
  ⟨h.cell (by omega), h.cell (by omega), h.cell (by omega), h.cell (by omega), h.cell (by omega), h.cell (by omega), h.cell (by omega), h.cell (by omega)⟩
set_option maxRecDepth 100000 in
set_option maxHeartbeats 4000000 in
theorem since_sh (w : World) {F : Nat → Prop} {p : Nat} {cen : Int} {arr : List Sd} (h : Pic w F p cen arr) (hl : arr.length ≤ 1000) (hnum : Nums arr) (v : Value) (l : List Int) (hv : Lst 1 encI w v l) (hok : vecOK l = true) :
    Calls Try.prog 25 #[.pointer (some ⟨p, 0, none⟩), v] w fun e w' => ∃ x, e = .returned (.tuple #[x, .int .i64 0]) ∧ w'.ownsRow w.heap.size 38 7 x (betw arr (vecN l) (knF arr) 8).length (flatE encSd (betw arr (vecN l) (knF arr) 8)) ∧ Below w.heap.size w w' := by
  obtain ⟨m, va, vk, h⟩ := h
  have his := is_sh p m w h.c1
  have hvo := vectored_ok v l w hv hok
  have hv8 : ∀ c, c < 8 → vecN l c ≤ 1000 := fun c _ => vecN_le hok c
  have hu8 : ∀ c, c < 8 → knF arr c ≤ 1000 := fun c _ => kn_le hnum _
  generalize vecN l = f at *
  have HI := Lib.hid his
  have HV := Lib.hid hvo
  have HP := Lib.hid h
  have hplt := h.lt
  have hmlt := h.mp.lt
  clear his hvo hv hok h
  dsimp only [valV] at HV
  go_enter Try.func25, Try.ntmps25
  go_wp2_with fail
  refine HI.out.mono ?_
  rintro e w1 ⟨rfl, rfl⟩
  go_wp2_with fail
  refine HV.out.mono ?_
  rintro e w1 ⟨rfl, hb1⟩
  go_wp2_with fail
  have hx := heap_alloc_new w1 (.cells #[.int .i64 (f 0), .int .i64 (f 1), .int .i64 (f 2), .int .i64 (f 3), .int .i64 (f 4), .int .i64 (f 5), .int .i64 (f 6), .int .i64 (f 7)] 62)
  have hb2 : Below w.heap.size w (w1.alloc (.cells #[.int .i64 (f 0), .int .i64 (f 1), .int .i64 (f 2), .int .i64 (f 3), .int .i64 (f 4), .int .i64 (f 5), .int .i64 (f 6), .int .i64 (f 7)] 62)) := hb1.alloc hb1.size _
  obtain ⟨W1, hW1⟩ : ∃ W, w1.alloc (.cells #[.int .i64 (f 0), .int .i64 (f 1), .int .i64 (f 2), .int .i64 (f 3), .int .i64 (f 4), .int .i64 (f 5), .int .i64 (f 6), .int .i64 (f 7)] 62) = W := ⟨_, rfl⟩
  obtain ⟨X, hX⟩ : ∃ X, w1.heap.size = X := ⟨_, rfl⟩
  rw [hW1, hX] at hx
  rw [hW1] at hb2
  rw [hW1, hX]
  have hxl : X < W1.heap.size := (Array.getElem?_eq_some_iff.1 hx).1
  have hvec : VecAt W1 X f := hx
  have HS : Hid (∀ W, Below W1.heap.size W1 W → _) := Lib.hid fun W hW => (hvec.of_block (hW.block X hxl)).cells
  have HN : Hid (∀ W, Below W1.heap.size W1 W → Calls Try.prog 28 #[.pointer (some ⟨p, 0, none⟩)] W fun e w' => e = .returned (valV (knF arr)) ∧ Below W1.heap.size W1 w') := Lib.hid fun W hW =>
    (now_sh W ((HP.out.below hb2).below hW) (by omega)).mono fun e w' ⟨h1, h2⟩ => ⟨h1, hW.trans (h2.mono hW.size)⟩
  have HB : Hid (∀ W, Below W1.heap.size W1 W → Calls Try.prog 46 #[.pointer (some ⟨p, 0, none⟩), valV f, valV (knF arr)] W fun e w' => ∃ B, e = .returned (.func (.func 64) #[] #[.pointer (some ⟨B + 1, 0, none⟩), .pointer (some ⟨B + 2, 0, none⟩), .pointer (some ⟨B, 0, none⟩)]) ∧ Btw w' B p m f (knF arr) arr ∧ B + 3 ≤ w'.heap.size ∧ Below W1.heap.size W1 w') := Lib.hid fun W hW =>
    (between_sh p f (knF arr) W).mono fun e w' ⟨h1, h2⟩ => by
      have hq := (HP.out.below hb2).below hW
      obtain ⟨m1, m2, m3⟩ := Btw.made h2 hq.lt hq.c1 hq.mp
      exact ⟨_, h1, m1, by omega, hW.trans (m2.mono hW.size)⟩
  have HC : Hid (∀ B W, Below W1.heap.size W1 W → Btw W B p m f (knF arr) arr → B + 3 ≤ W.heap.size → Calls Try.prog 45 #[.func (.func 64) #[] #[.pointer (some ⟨B + 1, 0, none⟩), .pointer (some ⟨B + 2, 0, none⟩), .pointer (some ⟨B, 0, none⟩)]] W fun e W' => ∃ x, e = .returned x ∧ W'.ownsRow w.heap.size 38 7 x (betw arr f (knF arr) 8).length (flatE encSd (betw arr f (knF arr) 8)) ∧ Below W1.heap.size W1 W') := Lib.hid fun B W hW hb hB =>
    (collect_sh B p m w.heap.size f (knF arr) arr hv8 hu8 W hplt hmlt (by have := hb2.size; have := hW.size; omega) hB hb).mono fun e w' ⟨x, h1, h2, h3⟩ => ⟨x, h1, ownsMono h2 (by have := hb2.size; have := hW.size; omega), hW.trans (h3.mono hW.size)⟩
  clear hW1 hx
  have hr0 := Below.refl W1.heap.size W1
  have hr1 := belowDrew hr0
  dsimp only [valV] at HN HB
  go_region_held3 (fun W' => W'.cell? ⟨X, 0, none⟩ = some (.int .i64 (f 0)) ∧ W'.cell? ⟨X, 1, none⟩ = some (.int .i64 (f 1)) ∧ W'.cell? ⟨X, 2, none⟩ = some (.int .i64 (f 2)) ∧ W'.cell? ⟨X, 3, none⟩ = some (.int .i64 (f 3)) ∧ W'.cell? ⟨X, 4, none⟩ = some (.int .i64 (f 4)) ∧ W'.cell? ⟨X, 5, none⟩ = some (.int .i64 (f 5)) ∧ W'.cell? ⟨X, 6, none⟩ = some (.int .i64 (f 6)) ∧ W'.cell? ⟨X, 7, none⟩ = some (.int .i64 (f 7)))
    (first | with_reducible exact HS.out _ hr0 | with_reducible exact HS.out _ hr1 | with_reducible exact HS.out _ hbA | with_reducible exact HS.out _ hbB | with_reducible exact HS.out _ hbC)
    (first | (go_at_call 28; (first | (with_reducible refine (HN.out _ hr0).mono ?_) | (with_reducible refine (HN.out _ hr1).mono ?_)); rintro e w2 ⟨rfl, hbA⟩) | (go_at_call 46; (with_reducible refine (HB.out _ hbA).mono ?_); rintro e w3 ⟨B, rfl, hbt, hB3, hbB⟩) | (go_at_call 45; (with_reducible refine (HC.out _ _ hbB hbt hB3).mono ?_); rintro e w4 ⟨x, rfl, hrx, hbC⟩))
  all_goals
    go_wp2_with fail
    refine bodyPost_ret (v := .tuple #[x, .int .i64 0]) (by simp [results, Try.results25, go_sem]) rfl ?_
    exact ⟨x, rfl, hrx, hb2.trans (hbC.mono hb2.size)⟩
end Go.Proofs.Ytngigogaiheckaa
