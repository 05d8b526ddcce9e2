/- grid.Region, of cells of the grid in whatever order. -/
import Derived.Test.YtnbdnnbeiohmgaaLgA
import Derived.Test.YtnbdnnbeiohmgaaLgEvery
namespace Go.Proofs.Ytnbdnnbeiohmgaa
open Go.RowKit Go.Shelf

def cellF (W H : Int) (l : List (Int × Int)) : Nat → List S2 := l.foldl (fun f c => addF W H c.2 c.1 (c.1 + 1) f) fun _ => []
theorem cellF_take {W H : Int} {l : List (Int × Int)} {k : Nat} {c : Int × Int} (h : l[k]? = some c) : cellF W H (l.take (k + 1)) = addF W H c.2 c.1 (c.1 + 1) (cellF W H (l.take k)) := by
  rw [List.take_add_one, h]
  simp [cellF]
theorem cellF_len (W H : Int) (l : List (Int × Int)) (i : Nat) : (cellF W H l i).length ≤ l.length := by
  have key : ∀ (l : List (Int × Int)) (f : Nat → List S2), (l.foldl (fun f c => addF W H c.2 c.1 (c.1 + 1) f) f i).length ≤ (f i).length + l.length := by
    intro l
    induction l with
    | nil => intro f; simp
    | cons r l ih =>
      intro f
      have h1 := ih (addF W H r.2 r.1 (r.1 + 1) f)
      have h2 := addF_len W H r.2 r.1 (r.1 + 1) f i
      simp only [List.foldl_cons, List.length_cons]
      omega
  have := key l (fun _ => [])
  simpa [cellF] using this
theorem cellF_mem {W H : Int} {l : List (Int × Int)} {i : Nat} {s : S2} (h : s ∈ cellF W H l i) : (i : Int) < H ∧ 0 ≤ s.1 ∧ s.1 < s.2 ∧ s.2 ≤ W := by
  have key : ∀ (l : List (Int × Int)) (f : Nat → List S2), s ∈ l.foldl (fun f c => addF W H c.2 c.1 (c.1 + 1) f) f i → s ∈ f i ∨ ((i : Int) < H ∧ 0 ≤ s.1 ∧ s.1 < s.2 ∧ s.2 ≤ W) := by
    intro l
    induction l with
    | nil => intro f h; exact .inl h
    | cons r l ih =>
      intro f h
      rcases ih _ h with h | h
      · exact addF_mem h
      · exact .inr h
  rcases key l _ h with h | h
  · simp at h
  · exact h
theorem cellF_in {W H : Int} {l : List (Int × Int)} (hl : ∀ c, c ∈ l → (0 ≤ c.1 ∧ c.1 < W) ∧ 0 ≤ c.2 ∧ c.2 < H) (i : Nat) (x : Int) : inS x (cellF W H l i) ↔ (x, (i : Int)) ∈ l := by
  have key : ∀ (l : List (Int × Int)) (f : Nat → List S2), (∀ c, c ∈ l → (0 ≤ c.1 ∧ c.1 < W) ∧ 0 ≤ c.2 ∧ c.2 < H) → (inS x (l.foldl (fun f c => addF W H c.2 c.1 (c.1 + 1) f) f i) ↔ inS x (f i) ∨ (x, (i : Int)) ∈ l) := by
    intro l
    induction l with
    | nil => intro f _; simp
    | cons c l ih =>
      intro f hr
      obtain ⟨cx, cy⟩ := c
      have h0 := hr (cx, cy) (by simp)
      dsimp only at h0
      rw [List.foldl_cons, ih _ (fun s hs => hr s (by simp [hs])), addF_in h0.2.1, List.mem_cons, Prod.mk.injEq]
      dsimp only
      constructor
      · rintro ((h | h) | h)
        · exact .inl h
        · right; left; omega
        · exact .inr (.inr h)
      · rintro (h | h | h)
        · exact .inl (.inl h)
        · left; right; omega
        · exact .inr h
  have := key l (fun _ => []) hl
  unfold cellF
  rw [this]
  simp [inS]
theorem cells_eq {W H : Int} {l : List (Int × Int)} {R : List R3} (hW : 1 ≤ W ∧ W ≤ 256) (hH : 1 ≤ H ∧ H ≤ 256) (hl : ∀ c, c ∈ l → (0 ≤ c.1 ∧ c.1 < W) ∧ 0 ≤ c.2 ∧ c.2 < H) (h : RegOf (cellF W H l) R) : R = refR (fun x y => decide ((x, y) ∈ l)) W.toNat H.toNat := by
  refine reg_eq' hW hH h (fun i s hs => cellF_mem hs) (fun i hi x h0 h1 => ?_)
  rw [cellF_in hl, decide_eq_true_eq]

set_option maxRecDepth 100000 in
set_option maxHeartbeats 8000000 in
theorem gregion_gr (W H S : Int) (vL v : Value) (ld : List R3) (L : List (Int × Int)) (w : World) (hLd : Runs w vL ld) (hv : Lst 2 encC w v L) (hk : checkG W H S ld = true) (hL : ∀ c, c ∈ L → (0 ≤ c.1 ∧ c.1 < W) ∧ 0 ≤ c.2 ∧ c.2 < H) (hlen : L.length ≤ 65536) :
    Calls Try.prog 83 #[.agg #[.int .i64 W, .int .i64 H, .int .i64 S, vL], v] w fun e w' =>
      (∃ R, RegOf (cellF W H L) R ∧ ∃ v', e = .returned (.tuple #[v', .int .i64 (if R.length ≤ 8192 then 0 else 3)]) ∧ Runs w' v' (if R.length ≤ 8192 then R else [])) ∧ Below w.heap.size w w' := by
  obtain ⟨hW, hH, hS, -⟩ := checkG_iff hk
  obtain ⟨m, hm⟩ : ∃ m, L.length = m := ⟨_, rfl⟩
  obtain ⟨Al, cl, rfl, -, hcl, h3⟩ := hv
  unfold maxLen at hcl
  rw [hm] at h3 hlen ⊢
  have H3 := Lib.hid h3
  have HM := Lib.hid hm
  have HIn := Lib.hid hL
  have HK := Lib.hid hk
  clear h3 hm hL hk
  go_enter Try.func83, Try.ntmps83
  have hmI : ¬ (65536 : Int) < (m : Int) := by omega
  have b1 : Below w.heap.size w (w.alloc (.cells #[.int .i64 W, .int .i64 H, .int .i64 S, vL] 24)) := (Below.refl w.heap.size w).alloc (Nat.le_refl _) _
  have hcG := checkGrid_gr W H S vL ld (w.alloc (.cells #[.int .i64 W, .int .i64 H, .int .i64 S, vL] 24)) (hLd.below b1)
  rw [HK.out, argE_true] at hcG
  have HCG := Lib.hid hcG
  clear hcG
  go_wp2_with fail
  have c0 : (w.alloc (.cells #[.int .i64 W, .int .i64 H, .int .i64 S, vL] 24)).cell? ⟨w.heap.size, 0, none⟩ = some (.int .i64 W) := by simp [go_sem]
  have c1 : (w.alloc (.cells #[.int .i64 W, .int .i64 H, .int .i64 S, vL] 24)).cell? ⟨w.heap.size, 1, none⟩ = some (.int .i64 H) := by simp [go_sem]
  have c2 : (w.alloc (.cells #[.int .i64 W, .int .i64 H, .int .i64 S, vL] 24)).cell? ⟨w.heap.size, 2, none⟩ = some (.int .i64 S) := by simp [go_sem]
  have c3 : (w.alloc (.cells #[.int .i64 W, .int .i64 H, .int .i64 S, vL] 24)).cell? ⟨w.heap.size, 3, none⟩ = some vL := by simp [go_sem]
  have hz1 : w.heap.size < (w.alloc (.cells #[.int .i64 W, .int .i64 H, .int .i64 S, vL] 24)).heap.size := by simp
  obtain ⟨w1, hw1⟩ : ∃ w1, (w.alloc (.cells #[.int .i64 W, .int .i64 H, .int .i64 S, vL] 24)) = w1 := ⟨_, rfl⟩
  rw [hw1] at b1 c0 c1 c2 c3 hz1 HCG ⊢
  clear hw1
  obtain ⟨B, hB⟩ : ∃ B, w.heap.size = B := ⟨_, rfl⟩
  rw [hB] at b1 c0 c1 c2 c3 hz1 ⊢
  refine HCG.out.mono ?_
  rintro e w2 ⟨rfl, hb2⟩
  have c0 := (hb2.cell (p := ⟨B, 0, none⟩) hz1).trans c0
  have c1 := (hb2.cell (p := ⟨B, 1, none⟩) hz1).trans c1
  have c2 := (hb2.cell (p := ⟨B, 2, none⟩) hz1).trans c2
  have c3 := (hb2.cell (p := ⟨B, 3, none⟩) hz1).trans c3
  have b2 := b1.trans (hb2.mono (by omega))
  have hz2 : B < w2.heap.size := by have := hb2.size; omega
  clear hb2 b1 HCG
  go_upto_region 7 with fail
  have T0 := Tab.new w2 w2.heap.size rfl
  have b3 := b2.alloc (by omega) (.cells Try.zeroCells100 100)
  have c0 := (World.cell?_alloc_lt w2 (.cells Try.zeroCells100 100) ⟨B, 0, none⟩ hz2).trans c0
  have c1 := (World.cell?_alloc_lt w2 (.cells Try.zeroCells100 100) ⟨B, 1, none⟩ hz2).trans c1
  have c2 := (World.cell?_alloc_lt w2 (.cells Try.zeroCells100 100) ⟨B, 2, none⟩ hz2).trans c2
  have c3 := (World.cell?_alloc_lt w2 (.cells Try.zeroCells100 100) ⟨B, 3, none⟩ hz2).trans c3
  obtain ⟨T, hT⟩ : ∃ T, w2.heap.size = T := ⟨_, rfl⟩
  obtain ⟨w3, hw3⟩ : ∃ w3, w2.alloc (.cells Try.zeroCells100 100) = w3 := ⟨_, rfl⟩
  have hz3 : T < w3.heap.size := by rw [← hw3, ← hT]; simp
  rw [hw3, hT] at T0
  rw [hw3] at b3 c0 c1 c2 c3 ⊢
  rw [hT] at hz2 ⊢
  clear hw3 b2 hT
  have hBT : B < T := by omega
  have HT0 := Lib.hid T0
  clear T0
  go_wp2_with fail
  go_loopw [22] (fun i wr => ∃ k : Nat, k ≤ m ∧ i = .int .i64 k ∧ (∃ vs, Tab wr T vs (cellF W H (L.take k))) ∧ wr.cell? ⟨B, 0, none⟩ = some (.int .i64 W) ∧ wr.cell? ⟨B, 1, none⟩ = some (.int .i64 H) ∧ wr.cell? ⟨B, 2, none⟩ = some (.int .i64 S) ∧ wr.cell? ⟨B, 3, none⟩ = some vL ∧ Below B w wr ∧ T < wr.heap.size) (fun i _ => m - (intOf i).toNat)
  case atStart => exact ⟨0, Nat.zero_le _, rfl, ⟨_, HT0.out⟩, c0, c1, c2, c3, b3, hz3⟩
  case round =>
    obtain ⟨k, hk, rfl, ⟨vs, hT⟩, d0, d1, d2, d3, hb, hTs⟩ := hrel
    clear c0 c1 c2 c3 b3 hz3
    by_cases hlt : k < m
    · obtain ⟨⟨cx, cy⟩, hx⟩ : ∃ x, L[k]? = some x := ⟨_, List.getElem?_eq_getElem (by rw [HM.out]; exact hlt)⟩
      obtain ⟨bb, off, rfl, hbl, hcs⟩ := H3.out (by omega)
      have m0 := (hb.cell (p := ⟨bb, off + k * 2 + 0, none⟩) (by show bb < B; omega)).trans (hcs k 0 _ _ hx rfl)
      have m1 := (hb.cell (p := ⟨bb, off + k * 2 + 1, none⟩) (by show bb < B; omega)).trans (hcs k 1 _ _ hx rfl)
      rw [Nat.add_zero] at m0
      have hin := HIn.out _ (List.mem_of_getElem? hx)
      dsimp only at hin
      have hkn : (k : Int) < (m : Int) := by omega
      have HE := Lib.hid (cellF_take (W := W) (H := H) hx)
      have hbw : bb < wr.heap.size := by have := hb.size; omega
      clear hcs hx
      go_upto_region 10 with fail
      have hre : Below wr.heap.size wr (wr.alloc (.cells #[.int .i64 cx, .int .i64 cy] 39)) := (Below.refl _ _).alloc (Nat.le_refl _) _
      have hBw : B < wr.heap.size := by omega
      have hT2 := hT.below hre
      have d0 := (hre.cell (p := ⟨B, 0, none⟩) hBw).trans d0
      have d1 := (hre.cell (p := ⟨B, 1, none⟩) hBw).trans d1
      have d2 := (hre.cell (p := ⟨B, 2, none⟩) hBw).trans d2
      have d3 := (hre.cell (p := ⟨B, 3, none⟩) hBw).trans d3
      have x0 : (wr.alloc (.cells #[.int .i64 cx, .int .i64 cy] 39)).cell? ⟨wr.heap.size, 0, none⟩ = some (.int .i64 cx) := by simp [go_sem]
      have x1 : (wr.alloc (.cells #[.int .i64 cx, .int .i64 cy] 39)).cell? ⟨wr.heap.size, 1, none⟩ = some (.int .i64 cy) := by simp [go_sem]
      have hb2 := hb.trans (hre.mono (by omega))
      have hze : wr.heap.size < (wr.alloc (.cells #[.int .i64 cx, .int .i64 cy] 39)).heap.size := by simp
      have hTs2 := Nat.lt_trans hTs hze
      obtain ⟨X, hX⟩ : ∃ X, wr.heap.size = X := ⟨_, rfl⟩
      obtain ⟨we, hwe⟩ : ∃ we, wr.alloc (.cells #[.int .i64 cx, .int .i64 cy] 39) = we := ⟨_, rfl⟩
      rw [hwe] at hT2 d0 d1 d2 d3 x0 x1 hb2 hze hTs2 ⊢
      rw [hX] at x0 x1 hze hBw ⊢
      have hfl : ∀ i, i < 256 → (cellF W H (L.take k) i).length ≤ 1000000000 := fun i _ => by
        have := cellF_len W H (L.take k) i
        have h2 : (L.take k).length ≤ k := by simp; omega
        omega
      have HAd := Lib.hid (add_gr W H S cy cx (cx + 1) vL T vs (cellF W H (L.take k)) we hW hH hT2 hfl)
      have eW : wrap64 (W - 1) = W - 1 := wrapId _ (by omega) (by omega)
      have eH : wrap64 (H - 1) = H - 1 := wrapId _ (by omega) (by omega)
      have ec : wrap64 (cx + 1) = cx + 1 := wrapId _ (by omega) (by omega)
      have i1 : inB cx 0 (W - 1) = true := by simp only [inB, Bool.and_eq_true, decide_eq_true_eq]; omega
      have i2 : inB cy 0 (H - 1) = true := by simp only [inB, Bool.and_eq_true, decide_eq_true_eq]; omega
      have HI := Lib.hid (And.intro i1 i2)
      have hBwe : B < we.heap.size := by omega
      clear hwe hre hT m0 m1 hbl hT2 hfl hX hb i1 i2 hbw
      go_wp2_with fail
      refine (within_gr cx 0 (W - 1) _).mono ?_
      rintro e w5 ⟨rfl, rfl⟩
      rw [HI.out.1]
      go_wp2_with fail
      refine (within_gr cy 0 (H - 1) _).mono ?_
      rintro e w5 ⟨rfl, rfl⟩
      rw [HI.out.2]
      go_wp2_with fail
      refine HAd.out.mono ?_
      rintro e w5 ⟨rfl, ⟨vs3, hT4, hun⟩, hb5⟩
      have hs5 := hb5.size
      have d0 := (hb5.cell (p := ⟨B, 0, none⟩) hBT).trans d0
      have d1 := (hb5.cell (p := ⟨B, 1, none⟩) hBT).trans d1
      have d2 := (hb5.cell (p := ⟨B, 2, none⟩) hBT).trans d2
      have d3 := (hb5.cell (p := ⟨B, 3, none⟩) hBT).trans d3
      have hb6 := hb2.trans (hb5.mono (by omega))
      have HT4 := Lib.hid hT4
      clear hT4 hun hb5 hb2 x0 x1
      go_wp2_with fail
      go_roundw
      case rel => exact ⟨k + 1, by omega, by go_num, ⟨vs3, by rw [HE.out]; exact HT4.out⟩, d0, d1, d2, d3, hb6, by omega⟩
      case measure => simp [intOf]; omega
    · have hke : k = m := by omega
      subst hke
      rw [List.take_of_length_le (by have := HM.out; omega)] at hT
      have hmem : ∀ i, i < 256 → ∀ s, s ∈ cellF W H L i → 0 ≤ s.1 ∧ s.1 ≤ 256 := fun i _ s hs => by
        have := cellF_mem hs
        omega
      have hflen : ∀ i, i < 256 → (cellF W H L i).length ≤ 1000000 := fun i _ => by
        have := cellF_len W H L i
        have := HM.out
        omega
      have HRg := Lib.hid (region_gr T vs (cellF W H L) wr hT hflen hmem)
      clear hT hflen hmem
      go_wp2_with fail
      refine HRg.out.mono ?_
      rintro e w7 ⟨⟨R, hRR, v', rfl, hv'⟩, hb7⟩
      have HR := Lib.hid hRR
      have HV := Lib.hid hv'
      have HB8 := Lib.hid (hb.trans (hb7.mono (by omega)))
      clear hRR hv' hb7 hb
      obtain ⟨E, hE⟩ : ∃ E : Int, (if R.length ≤ 8192 then 0 else 3) = E := ⟨_, rfl⟩
      rw [hE]
      go_wp2_with fail
      refine bodyPost_ret (v := .tuple #[v', .int .i64 E]) (by simp [results, Try.results83, go_sem]) rfl ⟨⟨R, HR.out, v', by rw [hE], HV.out⟩, ?_⟩
      rw [hB]
      exact HB8.out
end Go.Proofs.Ytnbdnnbeiohmgaa
