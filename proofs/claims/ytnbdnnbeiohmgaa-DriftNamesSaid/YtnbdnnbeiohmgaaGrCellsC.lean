/- grid.Cells; grid.Grow of what is not valid; grid.Back. -/
import Derived.Test.YtnbdnnbeiohmgaaGrCells
import Derived.Test.YtnbdnnbeiohmgaaGrE
namespace Go.Proofs.Ytnbdnnbeiohmgaa
open Go.RowKit Go.Shelf Go.Lib

theorem encC_get (x : Int × Int) (i : Nat) (u : Value) (h : (encC x)[i]? = some u) : i < 2 := by
  rcases i with - | - | i
  · omega
  · omega
  · simp [encC] at h

theorem flat_get : ∀ (l : List (Int × Int)) (j i : Nat) (x : Int × Int) (u : Value), l[j]? = some x → (encC x)[i]? = some u → (l.flatMap encC)[j * 2 + i]? = some u
  | [], j, i, x, u, hj, _ => by simp at hj
  | y :: l, 0, i, x, u, hj, hi => by
    simp at hj
    subst hj
    have := encC_get y i u hi
    rw [List.flatMap_cons, List.getElem?_append_left (by simp [encC]; omega)]
    simpa using hi
  | y :: l, j + 1, i, x, u, hj, hi => by
    have h := flat_get l j i x u (by simpa using hj) hi
    rw [List.flatMap_cons, List.getElem?_append_right (by simp [encC]; omega)]
    rw [show (j + 1) * 2 + i - (encC y).length = j * 2 + i by simp [encC]; omega]
    exact h

theorem ownsRow_lst {w : World} {n₀ : Nat} {e : TypeId} {v : Value} {L : List (Int × Int)} (h : w.ownsRow n₀ e 2 v L.length (L.flatMap encC)) : Lst 2 encC w v L := by
  obtain ⟨h0, h1⟩ := h
  rcases h1 with ⟨rfl, h1⟩ | ⟨g, cap, cur, rfl, h2, h3, h4, h5, h6, h7⟩
  · have : L = [] := by simpa using h1
    subst this
    exact Lst.nil _
  · refine ⟨_, _, rfl, h4, h5, fun _ => ⟨g, 0, rfl, (Array.getElem?_eq_some_iff.1 h3).1, fun j i x u hj hi => ?_⟩⟩
    have h8 := flat_get L j i x u hj hi
    rw [← h7] at h8
    rw [List.getElem?_take] at h8
    split at h8
    · unfold World.cell?
      rw [h3]
      simpa using h8
    · simp at h8

set_option maxRecDepth 100000 in
set_option maxHeartbeats 4000000 in
theorem cells_gr (W H S : Int) (vL v : Value) (ld l : List R3) (w : World) (hLd : Runs w vL ld) (hl : Runs w v l) :
    Calls Try.prog 12 #[.agg #[.int .i64 W, .int .i64 H, .int .i64 S, vL], v] w fun e w' =>
      (∃ v', e = .returned (.tuple #[v', .int .i64 (argE (checkRs W H S ld [l]))]) ∧ Lst 2 encC w' v' (if checkRs W H S ld [l] = true then cellsL l else [])) ∧ Below w.heap.size w w' := by
  obtain ⟨n, hn⟩ : ∃ n, l.length = n := ⟨_, rfl⟩
  obtain ⟨A, cap, rfl, -, hcap, hlA⟩ := (show Runs w v l from hl)
  unfold maxLen at hcap
  have HL := Lib.hid hl
  have HLd := Lib.hid hLd
  have HA := Lib.hid hlA
  clear hl hLd hlA
  rw [hn] at HL HA ⊢
  have HN := Lib.hid hn
  clear hn
  obtain ⟨ok, hok⟩ : ∃ ok, checkRs W H S ld [l] = ok := ⟨_, rfl⟩
  obtain ⟨E, hE⟩ : ∃ E, argE ok = E := ⟨_, rfl⟩
  obtain ⟨L, hLL⟩ : ∃ L, (if ok = true then cellsL l else []) = L := ⟨_, rfl⟩
  rw [hok, hE, hLL]
  have HK := Lib.hid hok
  have HE := Lib.hid hE
  have HLL := Lib.hid hLL
  clear hok hE hLL
  go_enter Try.func12, Try.ntmps12
  go_wp2_with fail
  have b1 : Below w.heap.size w (w.alloc (.cells #[.int .i64 W, .int .i64 H, .int .i64 S, vL] 24)) := (Below.refl w.heap.size w).alloc (Nat.le_refl _) _
  have hz1 : w.heap.size + 1 = (w.alloc (.cells #[.int .i64 W, .int .i64 H, .int .i64 S, vL] 24)).heap.size := by simp
  obtain ⟨w1, hw1⟩ : ∃ w1, w.alloc (.cells #[.int .i64 W, .int .i64 H, .int .i64 S, vL] 24) = w1 := ⟨_, rfl⟩
  rw [hw1] at b1 hz1 ⊢
  clear hw1
  have b1' := b1.alloc (by omega) (.cells #[.slice A n cap] 22)
  have hchk := checked_gr W H S vL (.slice (some ⟨w1.heap.size, 0, none⟩) 1 1) ld [.slice A n cap] [l] (w1.alloc (.cells #[.slice A n cap] 22)) (HLd.out.below b1') (Lst_lit (enc := enc1) (k := 1) (fun _ => rfl) w1 w1.heap.size 1 rfl #[.slice A n cap] [.slice A n cap] 22 rfl rfl (by unfold maxLen; omega)) rfl (fun i u x hu hx => by
    match i, hu, hx with
    | 0, hu, hx => simp at hu hx; subst hu hx; exact HL.out.below b1'
    | i + 1, hu, hx => simp at hu)
  rw [HK.out, HE.out] at hchk
  have w1b : Below w1.heap.size w1 (w1.alloc (.cells #[.slice A n cap] 22)) := (Below.refl _ _).alloc (Nat.le_refl _) _
  rw [hz1]
  refine hchk.mono ?_
  rintro e w2 ⟨rfl, hb2⟩
  have b2 := b1.trans ((w1b.trans (hb2.mono w1b.size)).mono (by omega))
  clear hchk w1b hb2 b1 b1' hz1
  cases ok with
  | false =>
    have hA : E = 2 := HE.out.symm
    subst hA
    go_wp2_with fail
    refine bodyPost_ret (v := .tuple #[.slice none 0 0, .int .i64 2]) (by simp [results, Try.results12, go_sem]) rfl ⟨⟨.slice none 0 0, rfl, ?_⟩, b2⟩
    rw [← HLL.out]
    exact Lst.nil _
  | true =>
    have hA : E = 0 := HE.out.symm
    subst hA
    have hK := HK.out
    simp only [checkRs, List.all_cons, List.all_nil, Bool.and_true, Bool.and_eq_true] at hK
    obtain ⟨hW, hH, hS, -⟩ := checkG_iff hK.1
    have hrB := hK.2
    simp only [rightB, Bool.and_eq_true, decide_eq_true_eq] at hrB
    have hrows := Lib.hid (right_rows hrB.1)
    have hlen := hrB.2
    rw [HN.out] at hlen
    have HB := Lib.hid (show ∀ r ∈ l, 0 ≤ r.2.1 ∧ r.2.2 ≤ 256 from fun r hr => by have := hrows.out r hr; omega)
    clear hrB hK
    go_wp2_with fail
    refine (cells_call A n cap _).mono ?_
    rintro e w3 ⟨rfl, rfl⟩
    have b3 := b2.alloc b2.size (.cells #[.slice A n cap] 22)
    have hc := collect_cells A n cap w.heap.size l HN.out HB.out (by omega) w2.heap.size (w2.alloc (.cells #[.slice A n cap] 22)) (by simp) b3.size (by simp [go_sem]) (fun k r hr => by
      obtain ⟨hk, -⟩ := List.getElem?_eq_some_iff.1 hr
      obtain ⟨b, off, e, hb, hcs⟩ := HA.out (by have := HN.out; omega)
      refine ⟨b, off, e, hb, (b3.cell (p := ⟨b, off + k * 3, none⟩) hb).trans (hcs k 0 r _ hr rfl), (b3.cell (p := ⟨b, off + k * 3 + 1, none⟩) hb).trans (hcs k 1 r _ hr rfl), (b3.cell (p := ⟨b, off + k * 3 + 2, none⟩) hb).trans (hcs k 2 r _ hr rfl)⟩)
    have HC := Lib.hid hc
    clear hc
    go_wp2_with fail
    refine HC.out.mono ?_
    rintro e w4 ⟨v', rfl, hr4, hb4⟩
    have b4 := b3.trans (hb4.mono b3.size)
    have HR4 := Lib.hid (ownsRow_lst hr4)
    clear hr4 hb4 HC b3 b2
    go_wp2_with fail
    refine bodyPost_ret (v := .tuple #[v', .int .i64 0]) (by simp [results, Try.results12, go_sem]) rfl ⟨⟨v', rfl, ?_⟩, b4⟩
    rw [← HLL.out]
    exact HR4.out

set_option maxRecDepth 100000 in
set_option maxHeartbeats 4000000 in
/-- Grow of a grid, region or push that is not valid -/
theorem grow_bad (W H S a b c d : Int) (vL v : Value) (ld l : List R3) (w : World) (hLd : Runs w vL ld) (hl : Runs w v l) (hok : (checkRs W H S ld [l] && pushB a b c d) = false) :
    Calls Try.prog 11 #[.agg #[.int .i64 W, .int .i64 H, .int .i64 S, vL], v, .agg #[.int .i64 a, .int .i64 b, .int .i64 c, .int .i64 d]] w fun e w' =>
      e = .returned (.tuple #[.slice none 0 0, .bool false, .int .i64 2]) ∧ Below w.heap.size w w' := by
  obtain ⟨n, hn⟩ : ∃ n, l.length = n := ⟨_, rfl⟩
  obtain ⟨A, cap, rfl, -, hcap, -⟩ := (show Runs w v l from hl)
  unfold maxLen at hcap
  have HL := Lib.hid hl
  have HLd := Lib.hid hLd
  clear hl hLd
  rw [hn] at HL ⊢
  clear hn
  go_enter Try.func11, Try.ntmps11
  go_wp2_with fail
  have b1 : Below w.heap.size w ((w.alloc (.cells #[.int .i64 W, .int .i64 H, .int .i64 S, vL] 24)).alloc (.cells #[.int .i64 a, .int .i64 b, .int .i64 c, .int .i64 d] 28)) := ((Below.refl w.heap.size w).alloc (Nat.le_refl _) _).alloc (by simp) _
  have p0 : ((w.alloc (.cells #[.int .i64 W, .int .i64 H, .int .i64 S, vL] 24)).alloc (.cells #[.int .i64 a, .int .i64 b, .int .i64 c, .int .i64 d] 28)).cell? ⟨w.heap.size + 1, 0, none⟩ = some (.int .i64 a) := by simp [go_sem]
  have p1 : ((w.alloc (.cells #[.int .i64 W, .int .i64 H, .int .i64 S, vL] 24)).alloc (.cells #[.int .i64 a, .int .i64 b, .int .i64 c, .int .i64 d] 28)).cell? ⟨w.heap.size + 1, 1, none⟩ = some (.int .i64 b) := by simp [go_sem]
  have p2 : ((w.alloc (.cells #[.int .i64 W, .int .i64 H, .int .i64 S, vL] 24)).alloc (.cells #[.int .i64 a, .int .i64 b, .int .i64 c, .int .i64 d] 28)).cell? ⟨w.heap.size + 1, 2, none⟩ = some (.int .i64 c) := by simp [go_sem]
  have p3 : ((w.alloc (.cells #[.int .i64 W, .int .i64 H, .int .i64 S, vL] 24)).alloc (.cells #[.int .i64 a, .int .i64 b, .int .i64 c, .int .i64 d] 28)).cell? ⟨w.heap.size + 1, 3, none⟩ = some (.int .i64 d) := by simp [go_sem]
  have hz1 : w.heap.size + 1 + 1 = ((w.alloc (.cells #[.int .i64 W, .int .i64 H, .int .i64 S, vL] 24)).alloc (.cells #[.int .i64 a, .int .i64 b, .int .i64 c, .int .i64 d] 28)).heap.size := by simp
  obtain ⟨w1, hw1⟩ : ∃ w1, ((w.alloc (.cells #[.int .i64 W, .int .i64 H, .int .i64 S, vL] 24)).alloc (.cells #[.int .i64 a, .int .i64 b, .int .i64 c, .int .i64 d] 28)) = w1 := ⟨_, rfl⟩
  rw [hw1] at b1 p0 p1 p2 p3 hz1 ⊢
  clear hw1
  have b1' := b1.alloc (by omega) (.cells #[.slice A n cap] 22)
  have hchk := checked_gr W H S vL (.slice (some ⟨w1.heap.size, 0, none⟩) 1 1) ld [.slice A n cap] [l] (w1.alloc (.cells #[.slice A n cap] 22)) (HLd.out.below b1') (Lst_lit (enc := enc1) (k := 1) (fun _ => rfl) w1 w1.heap.size 1 rfl #[.slice A n cap] [.slice A n cap] 22 rfl rfl (by unfold maxLen; omega)) rfl (fun i u x hu hx => by
    match i, hu, hx with
    | 0, hu, hx => simp at hu hx; subst hu hx; exact HL.out.below b1'
    | i + 1, hu, hx => simp at hu)
  obtain ⟨ok, hok1⟩ : ∃ ok, checkRs W H S ld [l] = ok := ⟨_, rfl⟩
  rw [hok1] at hchk hok
  clear hok1
  have w1b : Below w1.heap.size w1 (w1.alloc (.cells #[.slice A n cap] 22)) := (Below.refl _ _).alloc (Nat.le_refl _) _
  rw [hz1]
  refine hchk.mono ?_
  rintro e w2 ⟨rfl, hb2⟩
  have b12 := w1b.trans (hb2.mono w1b.size)
  obtain ⟨B, hB⟩ : ∃ B, w.heap.size = B := ⟨_, rfl⟩
  rw [hB] at b1 p0 p1 p2 p3 hz1 ⊢
  have p0 := (b12.cell (p := ⟨B + 1, 0, none⟩) (by show B + 1 < w1.heap.size; omega)).trans p0
  have p1 := (b12.cell (p := ⟨B + 1, 1, none⟩) (by show B + 1 < w1.heap.size; omega)).trans p1
  have p2 := (b12.cell (p := ⟨B + 1, 2, none⟩) (by show B + 1 < w1.heap.size; omega)).trans p2
  have p3 := (b12.cell (p := ⟨B + 1, 3, none⟩) (by show B + 1 < w1.heap.size; omega)).trans p3
  have b2 := b1.trans (b12.mono (by omega))
  clear hchk w1b hb2 b12 b1 b1'
  cases ok with
  | false =>
    have hA : argE false = 2 := rfl
    rw [hA]
    go_wp2_with fail
    exact bodyPost_ret (v := .tuple #[.slice none 0 0, .bool false, .int .i64 2]) (by simp [results, Try.results11, go_sem]) rfl ⟨rfl, by rw [hB]; exact b2⟩
  | true =>
    have hA : argE true = 0 := rfl
    rw [hA]
    rw [Bool.true_and] at hok
    go_wp2_with fail
    refine (pushed_gr a b c d _).mono ?_
    rintro e w3 ⟨rfl, hb3⟩
    rw [hok]
    have b3 := b2.trans (hb3.mono (by have := b2.size; omega))
    clear hb3 b2
    go_wp2_with fail
    exact bodyPost_ret (v := .tuple #[.slice none 0 0, .bool false, .int .i64 2]) (by simp [results, Try.results11, go_sem]) rfl ⟨rfl, by rw [hB]; exact b3⟩
end Go.Proofs.Ytnbdnnbeiohmgaa
