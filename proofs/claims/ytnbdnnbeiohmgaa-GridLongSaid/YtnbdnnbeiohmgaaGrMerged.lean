/- grid.merged: a row's spans in order, none of which touch. -/
import Derived.Test.YtnbdnnbeiohmgaaGrSort
import Derived.Deep.RegionHeld3
namespace Go.Proofs.Ytnbdnnbeiohmgaa
open Go.RowKit Go.Shelf Go.Lib

/-- the last element of a row written over -/
theorem ownsLast {w : World} {base g cap : Nat} {e : TypeId} {o : List S2} {a : S2} (x y : Int) (h : w.ownsRow base e 2 (.slice (some ⟨g, 0, none⟩) (o.length + 1) cap) (o.length + 1) (flatE encS (o ++ [a]))) :
    ((w.setCell ⟨g, o.length * 2, none⟩ (.int .i64 x)).setCell ⟨g, o.length * 2 + 1, none⟩ (.int .i64 y)).ownsRow base e 2 (.slice (some ⟨g, 0, none⟩) (o.length + 1) cap) (o.length + 1) (flatE encS (o ++ [(x, y)])) := by
  refine ⟨by rw [flatE_length encS_len]; simp, .inr ?_⟩
  rcases h.2 with ⟨h0, -⟩ | ⟨g', cap', cur, hv, hb, hh, h1, h2, h3, h4⟩
  · cases h0
  cases hv
  refine ⟨g, cap, (cur.setIfInBounds (o.length * 2) (.int .i64 x)).setIfInBounds (o.length * 2 + 1) (.int .i64 y), rfl, hb, ?_, h1, h2, by simpa using h3, ?_⟩
  · have hgl : g < w.heap.size := (Array.getElem?_eq_some_iff.1 hh).1
    simp [World.setCell, Array.getElem?_modify, hh]
  · have hsz : (o ++ [a]).length * 2 = (o.length + 1) * 2 := by simp
    apply List.ext_getElem?
    intro i
    have hold : (cur.toList.take ((o.length + 1) * 2))[i]? = (flatE encS (o ++ [a]))[i]? := by rw [h4]
    rw [flatE_append] at hold ⊢
    have hfl : (flatE encS o).length = o.length * 2 := flatE_length encS_len o
    rcases Nat.lt_or_ge i (o.length * 2) with hi | hi
    · rw [List.getElem?_append_left (by omega)] at hold ⊢
      rw [List.getElem?_take_of_lt (by omega)] at hold ⊢
      rw [Array.getElem?_toList] at hold ⊢
      rw [Array.getElem?_setIfInBounds_ne (by omega), Array.getElem?_setIfInBounds_ne (by omega)]
      exact hold
    · rw [List.getElem?_append_right (by omega), hfl]
      rcases Nat.lt_or_ge i ((o.length + 1) * 2) with hi2 | hi2
      · rw [List.getElem?_take_of_lt hi2, Array.getElem?_toList]
        have hlt : o.length * 2 + 1 < cur.size := by omega
        have : i = o.length * 2 ∨ i = o.length * 2 + 1 := by omega
        rcases this with rfl | rfl
        · rw [Array.getElem?_setIfInBounds_ne (by omega)]
          simp [flatE, encS, Nat.lt_of_succ_lt hlt]
        · simp [flatE, encS, hlt]
      · rw [List.getElem?_take_eq_none hi2]
        symm
        rw [List.getElem?_eq_none]
        simp [flatE, encS]
        omega

theorem lastCells {w : World} {base g cap : Nat} {e : TypeId} {o : List S2} {c d : Int} (h : w.ownsRow base e 2 (.slice (some ⟨g, 0, none⟩) (o.length + 1) cap) (o.length + 1) (flatE encS (o ++ [(c, d)]))) :
    w.cell? ⟨g, o.length * 2, none⟩ = some (.int .i64 c) ∧ w.cell? ⟨g, o.length * 2 + 1, none⟩ = some (.int .i64 d) ∧ w.frozen? ⟨g, o.length * 2, none⟩ = false ∧ w.frozen? ⟨g, o.length * 2 + 1, none⟩ = false := by
  rcases h.2 with ⟨h0, -⟩ | ⟨g', cap', cur, hv, hb, hh, h1, h2, h3, h4⟩
  · cases h0
  cases hv
  have hl : (o ++ [(c, d)])[o.length]? = some (c, d) := by simp
  have key : ∀ i v, i < 2 → (encS (c, d))[i]? = some v → w.cell? ⟨g, o.length * 2 + i, none⟩ = some v := by
    intro i v hi hv
    have e4 := flatE_get encS_len (o ++ [(c, d)]) o.length i _ _ hl hv
    have e5 : (cur.toList.take ((o.length + 1) * 2))[o.length * 2 + i]? = some v := by rw [h4]; exact e4
    rw [List.getElem?_take_of_lt (by omega), Array.getElem?_toList] at e5
    simp only [World.cell?, hh]
    simpa using e5
  exact ⟨key 0 _ (by omega) rfl, key 1 _ (by omega) rfl, by simp [World.frozen?, hh], by simp [World.frozen?, hh]⟩

theorem ownsSetO {w : World} {base : Nat} {e : TypeId} {size n : Nat} {v : Value} {xs : List Value} (h : w.ownsRow base e size v n xs) {a : Addr} (ha : v.ownBlock ≠ some a.block) (u : Value) : (w.setCell a u).ownsRow base e size v n xs := by
  refine ⟨h.1, ?_⟩
  rcases h.2 with h1 | ⟨g, cap, cur, rfl, hb, hh, hr⟩
  · exact .inl h1
  · refine .inr ⟨g, cap, cur, rfl, hb, ?_, hr⟩
    rw [Below.heap_setCell _ _ _ _ (fun e => ha (by simp [Value.ownBlock, e]))]
    exact hh

theorem ownsMono {w : World} {base base' : Nat} {e : TypeId} {size n : Nat} {v : Value} {xs : List Value} (h : w.ownsRow base e size v n xs) (hb : base' ≤ base) : w.ownsRow base' e size v n xs := by
  refine ⟨h.1, ?_⟩
  rcases h.2 with h1 | ⟨g, cap, cur, rfl, hg, hr⟩
  · exact .inl h1
  · exact .inr ⟨g, cap, cur, rfl, Nat.le_trans hb hg, hr⟩

theorem grownThen {w w1 w2 : World} {row : Option Nat} (h : w.grownBy w1 row) (hb : Below w1.heap.size w1 w2) : w.grownBy w2 row :=
  ⟨hb.os.trans h.os, hb.tape.trans h.tape, hb.output.trans h.output, Nat.le_trans h.size hb.size, fun k hk hne => (hb.block k (Nat.lt_of_lt_of_le hk h.size)).trans (h.block k hk hne)⟩
theorem mergeL_take {l : List S2} {k : Nat} {x : S2} (h : l[k]? = some x) : mergeL (l.take (k + 1)) = joinTo (mergeL (l.take k)) x := by
  rw [List.take_add_one, h]
  exact mergeL_snoc _ _

set_option maxRecDepth 100000 in
set_option maxHeartbeats 8000000 in
theorem merged_gr (v : Value) (l : List S2) (base : Nat) (w : World) (h : w.ownsRow base 176 2 v l.length (flatE encS l)) (hl : ∀ s, s ∈ l → 0 ≤ s.1 ∧ s.1 ≤ 256) (hcap : l.length ≤ 1000000000) :
    Calls Try.prog 105 #[v, .func (.func 106) #[] #[], .func (.func 107) #[] #[]] w fun e w' =>
      (∃ v' l', e = .returned v' ∧ l'.Perm l ∧ l'.Pairwise (fun a b => a.1 ≤ b.1) ∧ w'.ownsRow w.heap.size 176 2 v' (mergeL l').length (flatE encS (mergeL l'))) ∧ w.grownBy w' v.ownBlock := by
  have hs := sort_gr v l base w h hl hcap
  obtain ⟨p, cap, rfl, hp⟩ : ∃ p cap, v = .slice p l.length cap ∧ (0 < l.length → ∃ g, p = some ⟨g, 0, none⟩ ∧ g < w.heap.size) := by
    rcases h.2 with ⟨rfl, h0⟩ | ⟨g, cap, cur, rfl, hb, hh, -⟩
    · exact ⟨none, 0, by rw [h0], fun h => by omega⟩
    · refine ⟨_, _, rfl, fun _ => ⟨g, rfl, ?_⟩⟩
      rcases Nat.lt_or_ge g w.heap.size with h | h
      · exact h
      · rw [Array.getElem?_eq_none h] at hh
        cases hh
  have HS := Lib.hid hs
  have HL := Lib.hid hl
  clear hs h hl
  go_enter Try.func105, Try.ntmps105
  go_wp2_with fail
  refine HS.out.mono ?_
  rintro e w1 ⟨rfl, hg1, l', hpm, hsorted, hcells⟩
  have hlen := hpm.length_eq
  have HC := Lib.hid hcells
  have HP := Lib.hid hpm
  have HSo := Lib.hid hsorted
  clear hcells hpm hsorted HS
  obtain ⟨n, hn⟩ : ∃ n, l.length = n := ⟨_, rfl⟩
  rw [hn] at hlen hp hcap ⊢
  go_wp2_with fail
  go_loopw [7, 18] (fun vo i wr => ∃ k : Nat, k ≤ n ∧ i = .int .i64 k ∧ wr.ownsRow w1.heap.size 176 2 vo (mergeL (l'.take k)).length (flatE encS (mergeL (l'.take k))) ∧ Below w1.heap.size w1 wr) (fun _ i _ => n - (intOf i).toNat)
  case atStart => exact ⟨0, Nat.zero_le _, rfl, World.ownsRow_nil _ _ _ _, Below.refl _ _⟩
  case round =>
    obtain ⟨k, hk, rfl, hown, hb⟩ := hrel
    by_cases hlt : k < n
    · obtain ⟨g, rfl, hgl⟩ := hp (by omega)
      obtain ⟨⟨a, t⟩, hx⟩ : ∃ x, l'[k]? = some x := ⟨_, List.getElem?_eq_getElem (by omega)⟩
      obtain ⟨m0, m1⟩ := HC.out g cap rfl (by omega) k (a, t) hx
      have hg2 : g < w1.heap.size := Nat.lt_of_lt_of_le hgl hg1.size
      have m0 := (hb.cell (p := ⟨g, k * 2, none⟩) hg2).trans m0
      have m1 := (hb.cell (p := ⟨g, k * 2 + 1, none⟩) hg2).trans m1
      dsimp only at m0 m1
      have hmk := mergeL_take hx
      have hlk := mergeL_length (l'.take k)
      have hlk2 : (l'.take k).length ≤ k := by simp; omega
      have HX := Lib.hid hmk
      clear hx hmk
      have hz := hb.size
      have hg3 : g < wr.heap.size := by omega
      have hknn : (k : Int) < n := by omega
      rcases List.eq_nil_or_concat (mergeL (l'.take k)) with ho | ⟨o, ⟨c, d⟩, ho⟩
      · rw [ho] at hown HX
        obtain ⟨q, c2, rfl⟩ : ∃ q c2, u7 = .slice q 0 c2 := by
          rcases hown.2 with ⟨rfl, -⟩ | ⟨g', cap', cur, rfl, -⟩
          · exact ⟨_, _, rfl⟩
          · exact ⟨_, _, rfl⟩
        obtain ⟨i0, hi, hz0, hz1, hz2⟩ := info_parts infoSpan
        have hown4 := (hown.alloc (.cells #[.int .i64 a, .int .i64 t] 176)).alloc (.cells #[.int .i64 a, .int .i64 t] 176)
        go_wp2_with (at_builtin; refine wpList_append_lies _ rfl _ _ _ rfl (w1.heap.size) 176 i0 _ 2 16 Try.underlying98 hi hz0 hz1 hz2 rfl (by omega) (.slice q 0 c2) 0 (flatE encS []) rfl hown4 ⟨wr.heap.size + 1, 0, none⟩ 1 1 [.int .i64 a, .int .i64 t] rfl rfl (newsLit (cs := #[.int .i64 a, .int .i64 t]) (by simp)) (by simp [Value.oneCell']) (by omega) (by unfold maxLen; omega) (by omega) (by simp; omega) (wr.heap.size + 2) (by simp) ?_; intro gg cap5 w5 hown5 hgrow hat hlt5)
        go_roundw
        case rel =>
          refine ⟨k + 1, by omega, by go_num, ?_, ?_⟩
          · rw [HX.out, joinTo_nil]; exact hown5
          · exact ((hb.alloc (by omega) _).alloc (by simp; omega) _).grown hgrow (by simp; omega) (fun j hj => (ownBlock_lt hown hj).1)
        case measure => simp [intOf]; omega
      · rw [List.concat_eq_append] at ho
        rw [ho] at hown HX hlk
        obtain ⟨g2, c2, rfl⟩ : ∃ g2 c2, u7 = .slice (some ⟨g2, 0, none⟩) (o ++ [(c, d)]).length c2 := by
          rcases hown.2 with ⟨-, h0⟩ | ⟨g', cap', cur, rfl, -⟩
          · simp at h0
          · exact ⟨_, _, rfl⟩
        simp only [List.length_append, List.length_cons, List.length_nil, Nat.zero_add] at hown hlk ⊢
        obtain ⟨p0, p1, p2, p3⟩ : wr.cell? ⟨g2, o.length * 2, none⟩ = some (.int .i64 c) ∧ wr.cell? ⟨g2, o.length * 2 + 1, none⟩ = some (.int .i64 d) ∧ wr.frozen? ⟨g2, o.length * 2, none⟩ = false ∧ wr.frozen? ⟨g2, o.length * 2 + 1, none⟩ = false := lastCells hown
        have hgb := ownBlock_lt hown rfl
        obtain ⟨j, hj⟩ : ∃ j, o.length = j := ⟨_, rfl⟩
        have hown0 := hown
        rw [hj] at hown p0 p1 p2 p3 hlk ⊢
        have ej3 : IntKind.i64.wrap (j : Int) = j := wrapK _ (by omega) (by omega)
        have hj0 : (0 : Int) ≤ (j : Int) := by omega
        have hj1 : (j : Int) < (j : Int) + 1 := by omega
        obtain ⟨hg2l, hg2r⟩ := hgb
        go_wp2_with fail
        have q0 := (World.cell?_alloc_lt wr (.cells #[.int .i64 a, .int .i64 t] 176) ⟨g2, j * 2, none⟩ hg2r).trans p0
        have q1 := (World.cell?_alloc_lt wr (.cells #[.int .i64 a, .int .i64 t] 176) ⟨g2, j * 2 + 1, none⟩ hg2r).trans p1
        have q2 := (frozenAllocLt wr (.cells #[.int .i64 a, .int .i64 t] 176) ⟨g2, j * 2, none⟩ hg2r).trans p2
        have q3 := (frozenAllocLt wr (.cells #[.int .i64 a, .int .i64 t] 176) ⟨g2, j * 2 + 1, none⟩ hg2r).trans p3
        have x0 : (wr.alloc (.cells #[.int .i64 a, .int .i64 t] 176)).cell? ⟨wr.heap.size, 0, none⟩ = some (.int .i64 a) := by simp [go_sem]
        have x1 : (wr.alloc (.cells #[.int .i64 a, .int .i64 t] 176)).cell? ⟨wr.heap.size, 1, none⟩ = some (.int .i64 t) := by simp [go_sem]
        have hown5 := hown0.alloc (.cells #[.int .i64 a, .int .i64 t] 176)
        have hbe := hb.alloc (by omega) (.cells #[.int .i64 a, .int .i64 t] 176)
        have hze : wr.heap.size < (wr.alloc (.cells #[.int .i64 a, .int .i64 t] 176)).heap.size := by simp
        obtain ⟨X, hX⟩ : ∃ X, wr.heap.size = X := ⟨_, rfl⟩
        obtain ⟨we, hwe⟩ : ∃ we, wr.alloc (.cells #[.int .i64 a, .int .i64 t] 176) = we := ⟨_, rfl⟩
        rw [hwe] at q0 q1 q2 q3 x0 x1 hown5 hbe hze ⊢
        rw [hX] at x0 x1 hze hg2r ⊢
        have hgwe : g2 < we.heap.size := by omega
        clear hwe p0 p1 p2 p3 hown hown0
        have HJ := Lib.hid (join_gr c d a t)
        have hle : w1.heap.size ≤ we.heap.size := by have := hbe.size; omega
        have hgwa : g2 < (we.alloc (.cells #[.int .i64 0, .int .i64 0] 176)).heap.size := by simp; omega
        have hxwa : X < (we.alloc (.cells #[.int .i64 0, .int .i64 0] 176)).heap.size := by simp; omega
        have hywa : we.heap.size < (we.alloc (.cells #[.int .i64 0, .int .i64 0] 176)).heap.size := by simp
        have hlwa : we.heap.size ≤ (we.alloc (.cells #[.int .i64 0, .int .i64 0] 176)).heap.size := by simp
        have nz0 : (we.alloc (.cells #[.int .i64 0, .int .i64 0] 176)).cell? ⟨we.heap.size, 0, none⟩ = some (.int .i64 0) := by simp [go_sem]
        have nz1 : (we.alloc (.cells #[.int .i64 0, .int .i64 0] 176)).cell? ⟨we.heap.size, 1, none⟩ = some (.int .i64 0) := by simp [go_sem]
        have mz0 : (we.alloc (.cells #[.int .i64 0, .int .i64 0] 176)).frozen? ⟨we.heap.size, 0, none⟩ = false := by simp [go_sem]
        have mz1 : (we.alloc (.cells #[.int .i64 0, .int .i64 0] 176)).frozen? ⟨we.heap.size, 1, none⟩ = false := by simp [go_sem]
        have u1 : ¬ (we.heap.size = g2) := by omega
        have u2 : ¬ (we.heap.size = X) := by omega
        have u3 : ¬ (g2 = we.heap.size) := by omega
        have u4 : ¬ (X = we.heap.size) := by omega
        go_region_held3 (fun W' => W'.cell? ⟨g2, j * 2, none⟩ = some (.int .i64 c) ∧ W'.cell? ⟨g2, j * 2 + 1, none⟩ = some (.int .i64 d) ∧ W'.cell? ⟨X, 0, none⟩ = some (.int .i64 a) ∧ W'.cell? ⟨X, 1, none⟩ = some (.int .i64 t))
          (first | exact ⟨q0, q1, x0, x1⟩ | exact ⟨r0, r1, y0, y1⟩ | exact ⟨(World.cell?_alloc_lt we _ ⟨g2, j * 2, none⟩ hgwe).trans q0, (World.cell?_alloc_lt we _ ⟨g2, j * 2 + 1, none⟩ hgwe).trans q1, (World.cell?_alloc_lt we _ ⟨X, 0, none⟩ hze).trans x0, (World.cell?_alloc_lt we _ ⟨X, 1, none⟩ hze).trans x1⟩ | exact ⟨(World.cell?_alloc_lt w2 _ ⟨g2, j * 2, none⟩ (Nat.lt_of_lt_of_le hgwe hsz)).trans r0, (World.cell?_alloc_lt w2 _ ⟨g2, j * 2 + 1, none⟩ (Nat.lt_of_lt_of_le hgwe hsz)).trans r1, (World.cell?_alloc_lt w2 _ ⟨X, 0, none⟩ (Nat.lt_of_lt_of_le hze hsz)).trans y0, (World.cell?_alloc_lt w2 _ ⟨X, 1, none⟩ (Nat.lt_of_lt_of_le hze hsz)).trans y1⟩ | (simp [go_sem, r0, r1, y0, y1, u1, u2, u3, u4, n0, n1, m0, m1]; done) | go_keep)
          (first | (go_at_call 107; (with_reducible refine (HJ.out _).mono ?_); rintro e w2 ⟨rfl, hb2⟩; have r0 : w2.cell? ⟨g2, j * 2, none⟩ = some (.int .i64 c) := (hb2.cell (p := ⟨g2, j * 2, none⟩) hgwe).trans q0; have r1 : w2.cell? ⟨g2, j * 2 + 1, none⟩ = some (.int .i64 d) := (hb2.cell (p := ⟨g2, j * 2 + 1, none⟩) hgwe).trans q1; have y0 : w2.cell? ⟨X, 0, none⟩ = some (.int .i64 a) := (hb2.cell (p := ⟨X, 0, none⟩) hze).trans x0; have y1 : w2.cell? ⟨X, 1, none⟩ = some (.int .i64 t) := (hb2.cell (p := ⟨X, 1, none⟩) hze).trans x1; have hq2 : w2.frozen? ⟨g2, j * 2, none⟩ = false := (hb2.frozen (p := ⟨g2, j * 2, none⟩) hgwe).trans q2; have hq3 : w2.frozen? ⟨g2, j * 2 + 1, none⟩ = false := (hb2.frozen (p := ⟨g2, j * 2 + 1, none⟩) hgwe).trans q3; have hbw : Below w1.heap.size w1 w2 := hbe.trans (Below.mono (show Below we.heap.size we w2 from ⟨hb2.os, hb2.tape, hb2.output, hb2.size, hb2.block⟩) hle); have hown6 := ownsBelow hown5 (show Below we.heap.size we w2 from ⟨hb2.os, hb2.tape, hb2.output, hb2.size, hb2.block⟩); have hsz : we.heap.size ≤ w2.heap.size := hb2.size; skip) | (go_at_call 107; (with_reducible refine (HJ.out _).mono ?_); rintro e w2 ⟨rfl, hb2⟩; have r0 : w2.cell? ⟨g2, j * 2, none⟩ = some (.int .i64 c) := (hb2.cell (p := ⟨g2, j * 2, none⟩) hgwa).trans ((World.cell?_alloc_lt we (.cells #[.int .i64 0, .int .i64 0] 176) ⟨g2, j * 2, none⟩ hgwe).trans q0); have r1 : w2.cell? ⟨g2, j * 2 + 1, none⟩ = some (.int .i64 d) := (hb2.cell (p := ⟨g2, j * 2 + 1, none⟩) hgwa).trans ((World.cell?_alloc_lt we (.cells #[.int .i64 0, .int .i64 0] 176) ⟨g2, j * 2 + 1, none⟩ hgwe).trans q1); have y0 : w2.cell? ⟨X, 0, none⟩ = some (.int .i64 a) := (hb2.cell (p := ⟨X, 0, none⟩) hxwa).trans ((World.cell?_alloc_lt we (.cells #[.int .i64 0, .int .i64 0] 176) ⟨X, 0, none⟩ hze).trans x0); have y1 : w2.cell? ⟨X, 1, none⟩ = some (.int .i64 t) := (hb2.cell (p := ⟨X, 1, none⟩) hxwa).trans ((World.cell?_alloc_lt we (.cells #[.int .i64 0, .int .i64 0] 176) ⟨X, 1, none⟩ hze).trans x1); have hba := (show Below we.heap.size we w2 from ((Below.refl _ we).alloc (Nat.le_refl _) (.cells #[.int .i64 0, .int .i64 0] 176)).trans (Below.mono (show Below (we.alloc (.cells #[.int .i64 0, .int .i64 0] 176)).heap.size (we.alloc (.cells #[.int .i64 0, .int .i64 0] 176)) w2 from ⟨hb2.os, hb2.tape, hb2.output, hb2.size, hb2.block⟩) hlwa)); have hq2 : w2.frozen? ⟨g2, j * 2, none⟩ = false := (hba.frozen (p := ⟨g2, j * 2, none⟩) hgwe).trans q2; have hq3 : w2.frozen? ⟨g2, j * 2 + 1, none⟩ = false := (hba.frozen (p := ⟨g2, j * 2 + 1, none⟩) hgwe).trans q3; have hbw : Below w1.heap.size w1 w2 := hbe.trans (hba.mono hle); have hown6 := ownsBelow hown5 hba; have hsz : we.heap.size ≤ w2.heap.size := hba.size; have n0 : w2.cell? ⟨we.heap.size, 0, none⟩ = some (.int .i64 0) := (hb2.cell (p := ⟨we.heap.size, 0, none⟩) hywa).trans nz0; have n1 : w2.cell? ⟨we.heap.size, 1, none⟩ = some (.int .i64 0) := (hb2.cell (p := ⟨we.heap.size, 1, none⟩) hywa).trans nz1; have m0 : w2.frozen? ⟨we.heap.size, 0, none⟩ = false := (hb2.frozen (p := ⟨we.heap.size, 0, none⟩) hywa).trans mz0; have m1 : w2.frozen? ⟨we.heap.size, 1, none⟩ = false := (hb2.frozen (p := ⟨we.heap.size, 1, none⟩) hywa).trans mz1; skip))
        · rename_i hHeld
          obtain ⟨r0, r1, y0, y1⟩ := hHeld
          obtain ⟨M, hM⟩ : ∃ M, max d t = M := ⟨_, rfl⟩
          rw [hM] at r0 r1 y0 y1 ⊢
          have hsg : g2 < w2.heap.size := Nat.lt_of_lt_of_le hgwe hsz
          have hq2 := (frozenAllocLt w2 (.cells #[.int .i64 c, .int .i64 M] 176) ⟨g2, j * 2, none⟩ hsg).trans hq2
          have hq3 := (frozenAllocLt w2 (.cells #[.int .i64 c, .int .i64 M] 176) ⟨g2, j * 2 + 1, none⟩ hsg).trans hq3
          have t0 : (w2.alloc (.cells #[.int .i64 c, .int .i64 M] 176)).cell? ⟨w2.heap.size, 0, none⟩ = some (.int .i64 c) := by simp [go_sem]
          have t1 : (w2.alloc (.cells #[.int .i64 c, .int .i64 M] 176)).cell? ⟨w2.heap.size, 1, none⟩ = some (.int .i64 M) := by simp [go_sem]
          have hbw := hbw.alloc (by omega) (.cells #[.int .i64 c, .int .i64 M] 176)
          have hown6 := hown6.alloc (.cells #[.int .i64 c, .int .i64 M] 176)
          have hYw : w2.heap.size < (w2.alloc (.cells #[.int .i64 c, .int .i64 M] 176)).heap.size := by simp
          have hszz : we.heap.size ≤ (w2.alloc (.cells #[.int .i64 c, .int .i64 M] 176)).heap.size := by simp; omega
          obtain ⟨Y, hY⟩ : ∃ Y, w2.heap.size = Y := ⟨_, rfl⟩
          obtain ⟨wz, hwz⟩ : ∃ wz, w2.alloc (.cells #[.int .i64 c, .int .i64 M] 176) = wz := ⟨_, rfl⟩
          rw [hwz] at r0 r1 y0 y1 hq2 hq3 t0 t1 hbw hown6 hYw hszz ⊢
          rw [hY] at t0 t1 hYw ⊢
          clear hwz
          have hgwz : g2 < wz.heap.size := by omega
          by_cases had : a ≤ d
          · go_wp2_with fail
            go_roundw
            case rel =>
              refine ⟨k + 1, by omega, by go_num, ?_, ?_⟩
              · rw [HX.out, joinTo_in (a := (c, d)) (x := (a, t)) had]
                dsimp only
                rw [hM]
                have := ownsLast (o := o) (a := (c, d)) c M hown6
                rw [hj] at this
                simp only [List.length_append, List.length_cons, List.length_nil, Nat.zero_add]
                rw [hj]
                exact this
              · exact (hbw.setCell (p := ⟨g2, j * 2, none⟩) hg2l _).setCell (p := ⟨g2, j * 2 + 1, none⟩) hg2l _
            case measure => simp [intOf]; omega
          · have had' : d < a := by omega
            obtain ⟨i0, hi, hz0, hz1, hz2⟩ := info_parts infoSpan
            have hown7 := hown6.alloc (.cells #[.int .i64 a, .int .i64 t] 176)
            rw [hj] at hown7
            go_wp2_with (at_builtin; refine wpList_append_lies _ rfl _ _ _ rfl (w1.heap.size) 176 i0 _ 2 16 Try.underlying98 hi hz0 hz1 hz2 rfl (by omega) (.slice (some ⟨g2, 0, none⟩) (j + 1) c2) (j + 1) (flatE encS (o ++ [(c, d)])) rfl hown7 ⟨wz.heap.size, 0, none⟩ 1 1 [.int .i64 a, .int .i64 t] rfl rfl (newsLit (cs := #[.int .i64 a, .int .i64 t]) (by simp)) (by simp [Value.oneCell']) (by omega) (by unfold maxLen; omega) (by omega) (by simp; omega) (wz.heap.size + 1) (by simp) ?_; intro gg cap5 w5 hown8 hgrow hat hlt5)
            go_roundw
            case rel =>
              refine ⟨k + 1, by omega, by go_num, ?_, ?_⟩
              · rw [HX.out, joinTo_out (a := (c, d)) (x := (a, t)) had', flatE_append]
                simp only [List.length_append, List.length_cons, List.length_nil, Nat.zero_add]
                rw [hj]
                exact hown8
              · exact (hbw.alloc (by omega) _).grown hgrow (by simp; omega) (fun q hq => by simp [Value.ownBlock] at hq; omega)
            case measure => simp [intOf]; omega
        · rename_i hHeld
          obtain ⟨r0, r1, y0, y1⟩ := hHeld
          obtain ⟨M, hM⟩ : ∃ M, max d t = M := ⟨_, rfl⟩
          rw [hM] at r0 r1 y0 y1 ⊢
          have hq2 : ((w2.setCell ⟨we.heap.size, 0, none⟩ (.int .i64 c)).setCell ⟨we.heap.size, 1, none⟩ (.int .i64 M)).frozen? ⟨g2, j * 2, none⟩ = false := by simp [go_sem, hq2, u1, u3]
          have hq3 : ((w2.setCell ⟨we.heap.size, 0, none⟩ (.int .i64 c)).setCell ⟨we.heap.size, 1, none⟩ (.int .i64 M)).frozen? ⟨g2, j * 2 + 1, none⟩ = false := by simp [go_sem, hq3, u1, u3]
          have t0 : ((w2.setCell ⟨we.heap.size, 0, none⟩ (.int .i64 c)).setCell ⟨we.heap.size, 1, none⟩ (.int .i64 M)).cell? ⟨we.heap.size, 0, none⟩ = some (.int .i64 c) := by simp [go_sem, n0, n1, m0, m1]
          have t1 : ((w2.setCell ⟨we.heap.size, 0, none⟩ (.int .i64 c)).setCell ⟨we.heap.size, 1, none⟩ (.int .i64 M)).cell? ⟨we.heap.size, 1, none⟩ = some (.int .i64 M) := by simp [go_sem, n0, n1, m0, m1]
          have hbw := (hbw.setCell (p := ⟨we.heap.size, 0, none⟩) hle (.int .i64 c)).setCell (p := ⟨we.heap.size, 1, none⟩) hle (.int .i64 M)
          have hown6 := ownsSetO (ownsSetO hown6 (a := ⟨we.heap.size, 0, none⟩) (by simp [Value.ownBlock]; omega) (.int .i64 c)) (a := ⟨we.heap.size, 1, none⟩) (by simp [Value.ownBlock]; omega) (.int .i64 M)
          have hYw : we.heap.size < ((w2.setCell ⟨we.heap.size, 0, none⟩ (.int .i64 c)).setCell ⟨we.heap.size, 1, none⟩ (.int .i64 M)).heap.size := by have := World.block_lt_of_cell? w2 _ n0; simp [World.setCell]; omega
          have hszz : we.heap.size ≤ ((w2.setCell ⟨we.heap.size, 0, none⟩ (.int .i64 c)).setCell ⟨we.heap.size, 1, none⟩ (.int .i64 M)).heap.size := by simp [World.setCell]; omega
          obtain ⟨Y, hY⟩ : ∃ Y, we.heap.size = Y := ⟨_, rfl⟩
          obtain ⟨wz, hwz⟩ : ∃ wz, ((w2.setCell ⟨we.heap.size, 0, none⟩ (.int .i64 c)).setCell ⟨we.heap.size, 1, none⟩ (.int .i64 M)) = wz := ⟨_, rfl⟩
          rw [hwz] at r0 r1 y0 y1 hq2 hq3 t0 t1 hbw hown6 hYw hszz ⊢
          rw [hY] at t0 t1 hYw ⊢
          clear hwz
          have hgwz : g2 < wz.heap.size := by omega
          by_cases had : a ≤ d
          · go_wp2_with fail
            go_roundw
            case rel =>
              refine ⟨k + 1, by omega, by go_num, ?_, ?_⟩
              · rw [HX.out, joinTo_in (a := (c, d)) (x := (a, t)) had]
                dsimp only
                rw [hM]
                have := ownsLast (o := o) (a := (c, d)) c M hown6
                rw [hj] at this
                simp only [List.length_append, List.length_cons, List.length_nil, Nat.zero_add]
                rw [hj]
                exact this
              · exact (hbw.setCell (p := ⟨g2, j * 2, none⟩) hg2l _).setCell (p := ⟨g2, j * 2 + 1, none⟩) hg2l _
            case measure => simp [intOf]; omega
          · have had' : d < a := by omega
            obtain ⟨i0, hi, hz0, hz1, hz2⟩ := info_parts infoSpan
            have hown7 := hown6.alloc (.cells #[.int .i64 a, .int .i64 t] 176)
            rw [hj] at hown7
            go_wp2_with (at_builtin; refine wpList_append_lies _ rfl _ _ _ rfl (w1.heap.size) 176 i0 _ 2 16 Try.underlying98 hi hz0 hz1 hz2 rfl (by omega) (.slice (some ⟨g2, 0, none⟩) (j + 1) c2) (j + 1) (flatE encS (o ++ [(c, d)])) rfl hown7 ⟨wz.heap.size, 0, none⟩ 1 1 [.int .i64 a, .int .i64 t] rfl rfl (newsLit (cs := #[.int .i64 a, .int .i64 t]) (by simp)) (by simp [Value.oneCell']) (by omega) (by unfold maxLen; omega) (by omega) (by simp; omega) (wz.heap.size + 1) (by simp) ?_; intro gg cap5 w5 hown8 hgrow hat hlt5)
            go_roundw
            case rel =>
              refine ⟨k + 1, by omega, by go_num, ?_, ?_⟩
              · rw [HX.out, joinTo_out (a := (c, d)) (x := (a, t)) had', flatE_append]
                simp only [List.length_append, List.length_cons, List.length_nil, Nat.zero_add]
                rw [hj]
                exact hown8
              · exact (hbw.alloc (by omega) _).grown hgrow (by simp; omega) (fun q hq => by simp [Value.ownBlock] at hq; omega)
            case measure => simp [intOf]; omega
    · have hke : k = n := by omega
      subst hke
      have hfin := ownsMono hown hg1.size
      rw [List.take_of_length_le (by omega)] at hfin
      go_wp2_with fail
      go_ret
      exact ⟨⟨_, l', rfl, HP.out, HSo.out, hfin⟩, grownThen hg1 hb⟩
end Go.Proofs.Ytnbdnnbeiohmgaa
