/- share: Show, At. -/
import Derived.Test.YtngigogaiheckaaShShow
namespace Go.Proofs.Ytngigogaiheckaa
open Go.RowKit Go.Shelf Go.Lib Go.Maps

/-- what lies up to a vector that is known -/
theorem betw_known {arr : List Sd} (hn : Nums arr) {u : Nat → Nat} (hu : ∀ c, c < 8 → u c ≤ knF arr c) : ∀ s, s ∈ betw arr (fun _ => 0) u 8 → s ∈ arr := by
  intro s hs
  obtain ⟨c, n, hc, h0, h1, rfl⟩ := mem_betw.1 hs
  have := hu c hc
  obtain ⟨t, ht⟩ := kn_has hn (c := ((c + 1 : Nat) : Int)) (n := n) (by omega) (Nat.le_trans h1 this)
  unfold getP
  rw [ht]
  exact (atP_some ht).1
set_option maxRecDepth 100000 in
theorem showAll_sh (w : World) {F : Nat → Prop} {p : Nat} {cen : Int} {arr : List Sd} (h : Pic w F p cen arr) (hl : arr.length ≤ 1000) (hok : ∀ s, s ∈ arr → SdOK s) :
    Calls Try.prog 16 #[.pointer (some ⟨p, 0, none⟩)] w fun e w' => ∃ v out, e = .returned v ∧ w'.ownsRow w.heap.size 44 8 v out.length (flatE encW out) ∧ Shows (betw arr (fun _ => 0) (knF arr) 8) out ∧ Below w.heap.size w w' := by
  obtain ⟨m, va, vk, h⟩ := h
  have hnum : Nums arr := fun s hs => ⟨(hok s hs).c, (hok s hs).n⟩
  have his := is_sh p m w h.c1
  have hnow := now_sh w h (by omega)
  have hsh : ∀ W, Below w.heap.size w W → Calls Try.prog 31 #[.pointer (some ⟨p, 0, none⟩), valV (knF arr)] W fun e w' => ∃ v out, e = .returned v ∧ w'.ownsRow w.heap.size 44 8 v out.length (flatE encW out) ∧ Shows (betw arr (fun _ => 0) (knF arr) 8) out ∧ Below w.heap.size w w' := fun W hW =>
    (show_sh W (h.below hW) (knF arr) (fun c _ => kn_le hnum _) _ rfl (fun s hs => hok s (betw_known hnum (fun c _ => Nat.le_refl _) s hs))).mono fun e w' ⟨v, out, h1, h2, h3, h4⟩ => ⟨v, out, h1, ownsMono h2 hW.size, h3, hW.trans (h4.mono hW.size)⟩
  have HI := Lib.hid his
  have HN := Lib.hid hnow
  have HS := Lib.hid hsh
  clear his hnow hsh h
  go_enter Try.func16, Try.ntmps16
  go_wp2_with fail
  refine HI.out.mono ?_
  rintro e w1 ⟨rfl, rfl⟩
  go_wp2_with fail
  refine HN.out.mono ?_
  rintro e w1 ⟨rfl, hb1⟩
  go_wp2_with fail
  refine (HS.out _ hb1).mono ?_
  rintro e w2 ⟨v, out, rfl, h1, h2, h3⟩
  go_wp2_with fail
  go_ret
  exact ⟨v, out, rfl, h1, h2, h3⟩
set_option maxRecDepth 100000 in
set_option maxHeartbeats 4000000 in
theorem at_sh (w : World) {F : Nat → Prop} {p : Nat} {cen : Int} {arr : List Sd} (h : Pic w F p cen arr) (hl : arr.length ≤ 1000) (hok : ∀ s, s ∈ arr → SdOK s) (v : Value) (l : List Int) (hv : Lst 1 encI w v l) (hvec : vecOK l = true) (hle : ∀ c, c < 8 → vecN l c ≤ knF arr c) :
    Calls Try.prog 12 #[.pointer (some ⟨p, 0, none⟩), v] w fun e w' => ∃ v out, e = .returned (.tuple #[v, .int .i64 0]) ∧ w'.ownsRow w.heap.size 44 8 v out.length (flatE encW out) ∧ Shows (betw arr (fun _ => 0) (vecN l) 8) out ∧ Below w.heap.size w w' := by
  obtain ⟨m, va, vk, h⟩ := h
  have hnum : Nums arr := fun s hs => ⟨(hok s hs).c, (hok s hs).n⟩
  have his := is_sh p m w h.c1
  have hvo := vectored_ok v l w hv hvec
  have hv8 : ∀ c, c < 8 → vecN l c ≤ 1000 := fun c _ => vecN_le hvec c
  generalize vecN l = f at *
  have hsh : ∀ W, Below w.heap.size w W → Calls Try.prog 31 #[.pointer (some ⟨p, 0, none⟩), valV f] W fun e w' => ∃ v out, e = .returned v ∧ w'.ownsRow w.heap.size 44 8 v out.length (flatE encW out) ∧ Shows (betw arr (fun _ => 0) f 8) out ∧ Below w.heap.size w w' := fun W hW =>
    (show_sh W (h.below hW) f hv8 _ rfl (fun s hs => hok s (betw_known hnum hle s hs))).mono fun e w' ⟨v, out, h1, h2, h3, h4⟩ => ⟨v, out, h1, ownsMono h2 hW.size, h3, hW.trans (h4.mono hW.size)⟩
  have hnow : ∀ W, Below w.heap.size w W → Calls Try.prog 28 #[.pointer (some ⟨p, 0, none⟩)] W fun e w' => e = .returned (valV (knF arr)) ∧ Below W.heap.size W w' := fun W hW =>
    now_sh W (h.below hW) (by omega)
  have hix := ix_v (knF arr)
  have hk8 : ∀ c, knF arr c ≤ 1000 := fun c => kn_le hnum _
  generalize knF arr = kf at *
  have HI := Lib.hid his
  have HV := Lib.hid hvo
  have HS := Lib.hid hsh
  have HN := Lib.hid hnow
  have HIX := Lib.hid hix
  clear his hvo hv hvec hsh hnow hix h
  dsimp only [valV] at HV HN HS
  go_enter Try.func12, Try.ntmps12
  go_wp2_with fail
  refine HI.out.mono ?_
  rintro e w1 ⟨rfl, rfl⟩
  go_wp2_with fail
  refine HV.out.mono ?_
  rintro e w1 ⟨rfl, hb1⟩
  go_wp2_with fail
  have hx := heap_alloc_new w1 (.cells #[.int .i64 (f 0), .int .i64 (f 1), .int .i64 (f 2), .int .i64 (f 3), .int .i64 (f 4), .int .i64 (f 5), .int .i64 (f 6), .int .i64 (f 7)] 62)
  have hb2 : Below w.heap.size w (w1.alloc (.cells #[.int .i64 (f 0), .int .i64 (f 1), .int .i64 (f 2), .int .i64 (f 3), .int .i64 (f 4), .int .i64 (f 5), .int .i64 (f 6), .int .i64 (f 7)] 62)) := hb1.alloc hb1.size _
  obtain ⟨W1, hW1⟩ : ∃ W, w1.alloc (.cells #[.int .i64 (f 0), .int .i64 (f 1), .int .i64 (f 2), .int .i64 (f 3), .int .i64 (f 4), .int .i64 (f 5), .int .i64 (f 6), .int .i64 (f 7)] 62) = W := ⟨_, rfl⟩
  obtain ⟨X, hX⟩ : ∃ X, w1.heap.size = X := ⟨_, rfl⟩
  rw [hW1, hX] at hx
  rw [hW1] at hb2
  rw [hW1, hX]
  have hxl : X < W1.heap.size := (Array.getElem?_eq_some_iff.1 hx).1
  have hvec : VecAt W1 X f := hx
  clear hW1 hx
  refine (HN.out _ hb2).mono ?_
  rintro e w2 ⟨rfl, hb3⟩
  have hvec : VecAt w2 X f := hvec.of_block (hb3.block X hxl)
  have hb4 : Below w.heap.size w w2 := hb2.trans (hb3.mono hb2.size)
  go_wp2_with fail
  go_loopw [22] (fun i wr => ∃ k : Nat, k ≤ 8 ∧ i = .int .i64 k ∧ wr = w2) (fun i _ => 8 - (intOf i).toNat)
  case atStart => exact ⟨0, by omega, rfl, rfl⟩
  case round =>
    obtain ⟨k, hk, rfl, rfl⟩ := hrel
    by_cases hlt : k < 8
    · have hix := HIX.out k hlt wr
      unfold arrV at hix
      have cv := hvec.cell hlt
      have hk1 : (k : Int) < 8 := by omega
      have hk0 : (0 : Int) ≤ k := by omega
      have hgt : ((kf k : Int) < f k) = False := by have := hle k hlt; simp only [eq_iff_iff, iff_false]; omega
      go_wp2_with fail
      go_roundw
      case rel => exact ⟨k + 1, by omega, by go_num, by trivial⟩
      case measure => simp [intOf]; omega
    · obtain rfl : k = 8 := by omega
      obtain ⟨v0, v1, v2, v3, v4, v5, v6, v7⟩ := hvec.cells
      go_wp2_with fail
      refine (HS.out _ hb4).mono ?_
      rintro e w5 ⟨v, out, rfl, h1, h2, h3⟩
      go_wp2_with fail
      refine bodyPost_ret (v := .tuple #[v, .int .i64 0]) (by simp [results, Try.results12, go_sem]) rfl ?_
      exact ⟨v, out, rfl, h1, h2, h3⟩
end Go.Proofs.Ytngigogaiheckaa
