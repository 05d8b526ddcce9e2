/- The document's part: all that hangs together with a cell. -/
import Derived.Deep.LoopGhost
import Derived.Deep.DeepCutAuto
import Derived.WalkMore
import Derived.Test.YtnbdnnbeiohmgaaDoorOqA
import Derived.Test.YtnbdnnbeiohmgaaDoorLgValid
import Derived.Test.YtnbdnnbeiohmgaaDoorLgRunsW
import Derived.Test.YtnbdnnbeiohmgaaDoorLgEvery
namespace Go.Proofs.YtnbdnnbeiohmgaaDoor
open Go.RowKit Go.Maps Go.Shelf Go.Lib

/-- what is wanted of part -/
def PartT (S : Int → Int → Bool) (x y : Int) (D0 : Nat) (e : Ending) (w' : World) : Prop :=
  ∃ d n T, e = .returned (.map (some d)) ∧ D0 ≤ d ∧ SetT w' d n T ∧ n ≤ 8193 ∧ T x y = true ∧ (∀ p q, T p q = true → S p q = true) ∧ ∀ p q, T p q = true → ∀ c, c ∈ sidesL (p, q) → S c.1 c.2 = true → T c.1 c.2 = true
structure PqI (w1 wr : World) (D base : Nat) (S : Int → Int → Bool) (x0 y0 : Int) (T : Int → Int → Bool) (Q : List (Int × Int)) (n m : Nat) (v : Value) (bad : Int × Int → Prop) : Prop where
  set : SetT wr D n T
  q : QOwn wr base v Q
  xt : Xt (fun k => k = D) w1 wr
  cov : Cov m (fun p q => S p q && !T p q)
  sub : ∀ p q, T p q = true → S p q = true
  c0 : T x0 y0 = true
  inq : ∀ c, c ∈ Q → T c.1 c.2 = true
  shut : ∀ p q, T p q = true → (p, q) ∉ Q → ¬ bad (p, q) → ∀ c, c ∈ sidesL (p, q) → S c.1 c.2 = true → T c.1 c.2 = true
  bound : n + m ≤ 8193
section
variable {w1 wr w' : World} {D base n m : Nat} {S T : Int → Int → Bool} {x0 y0 x y : Int} {Q : List (Int × Int)} {v v' : Value} {bad : Int × Int → Prop}
theorem PqI.move (h : PqI w1 wr D base S x0 y0 T Q n m v bad) (hb : Below wr.heap.size wr w') : PqI w1 w' D base S x0 y0 T Q n m v bad :=
  ⟨h.set.of_block2 (hb.block D h.set.lt), h.q.below hb, h.xt.thenBelow hb h.xt.size, h.cov, h.sub, h.c0, h.inq, h.shut, h.bound⟩
theorem PqI.pop (h : PqI w1 wr D base S x0 y0 T ((x, y) :: Q) n m v (fun _ => False)) (hq : QOwn wr base v' Q) : PqI w1 wr D base S x0 y0 T Q n m v' (fun c => c = (x, y)) :=
  ⟨h.set, hq, h.xt, h.cov, h.sub, h.c0, fun c hc => h.inq c (by simp [hc]), fun p q h1 h2 h3 => h.shut p q h1 (by
    intro hm
    rcases List.mem_cons.1 hm with e | hm
    · exact h3 e
    · exact h2 hm) (fun e => e), h.bound⟩
theorem PqI.done (h : PqI w1 wr D base S x0 y0 T Q n m v (fun c => c = (x, y))) (hc : ∀ c, c ∈ sidesQ (x, y) → S c.1 c.2 = true → T c.1 c.2 = true) : PqI w1 wr D base S x0 y0 T Q n m v (fun _ => False) :=
  ⟨h.set, h.q, h.xt, h.cov, h.sub, h.c0, h.inq, fun p q h1 h2 _ c hm hs => by
    by_cases e : (p, q) = (x, y)
    · cases e
      exact hc c (sidesQ_mem.2 hm) hs
    · exact h.shut p q h1 h2 e c hm hs, h.bound⟩
theorem PqI.add (h : PqI w1 wr D base S x0 y0 T Q n m v bad) {dx dy : Int} (hs : S dx dy = true) (ht : T dx dy = false) (hset : SetT w' D (n + 1) (fun p q => if p = dx ∧ q = dy then true else T p q)) (hq : QOwn w' base v' (Q ++ [(dx, dy)])) (hx : Xt (fun k => k = D) w1 w') :
    ∃ m', m = m' + 1 ∧ PqI w1 w' D base S x0 y0 (fun p q => if p = dx ∧ q = dy then true else T p q) (Q ++ [(dx, dy)]) (n + 1) m' v' bad := by
  cases m with
  | zero =>
    obtain ⟨l, h1, h2⟩ := h.cov
    have h3 := h2 dx dy (by simp [hs, ht])
    rw [List.eq_nil_of_length_eq_zero (by omega : l.length = 0)] at h3
    cases h3
  | succ m' =>
    refine ⟨m', rfl, hset, hq, hx, ?_, fun p q e => ?_, ?_, fun c hc => ?_, fun p q h1 h2 h3 c hm hsc => ?_, by have := h.bound; omega⟩
    · have k := h.cov.rem (x := dx) (y := dy) (by simp [hs, ht])
      refine k.mono fun p q e => ?_
      unfold remS
      by_cases hpq : p = dx ∧ q = dy
      · simp [hpq] at e
      · simpa [hpq] using e
    · by_cases hpq : p = dx ∧ q = dy
      · rw [hpq.1, hpq.2]; exact hs
      · rw [if_neg hpq] at e
        exact h.sub p q e
    · split
      · rfl
      · exact h.c0
    · split
      · rfl
      · rename_i hne
        rcases List.mem_append.1 hc with hc | hc
        · exact h.inq c hc
        · rw [List.mem_singleton.1 hc] at hne
          exact absurd ⟨rfl, rfl⟩ hne
    · split
      · rfl
      · by_cases hpq : p = dx ∧ q = dy
        · rw [hpq.1, hpq.2] at h2
          simp at h2
        · rw [if_neg hpq] at h1
          exact h.shut p q h1 (fun hm => h2 (by simp [hm])) h3 c hm hsc
end

/-- the cells beside a cell, laid by the call -/
def LitQ (w : World) (gl : Nat) (x y : Int) : Prop := w.heap[gl]? = some (.cells #[.int .i64 x, .int .i64 (y - 1), .int .i64 (x - 1), .int .i64 y, .int .i64 (x + 1), .int .i64 y, .int .i64 x, .int .i64 (y + 1)] 77 (0, 0))
theorem sideQ_bd {x y : Int} {i : Nat} {d : Int × Int} (hd : (sidesQ (x, y))[i]? = some d) : (x - 1 ≤ d.1 ∧ d.1 ≤ x + 1) ∧ y - 1 ≤ d.2 ∧ d.2 ≤ y + 1 := by
  have hi : i < 4 := by
    have := (List.getElem?_eq_some_iff.1 hd).1
    simpa [sidesQ] using this
  have : i = 0 ∨ i = 1 ∨ i = 2 ∨ i = 3 := by omega
  rcases this with rfl | rfl | rfl | rfl <;> (simp [sidesQ] at hd; subst hd; dsimp only; omega)
theorem take_one {α : Type} {l : List α} {j : Nat} {d c : α} (hd : l[j]? = some d) (h : c ∈ l.take (j + 1)) : c ∈ l.take j ∨ c = d := by
  rw [List.take_add_one, hd] at h
  simpa using h
/-- the inner loop's state -/
def InR (w1 wq : World) (D : Nat) (S : Int → Int → Bool) (x y cx cy : Int) (gl gk z j : Nat) (v : Value) : Prop :=
  ∃ T Q n m, PqI w1 wq D (D + 1) S x y T Q n m v (fun c => c = (cx, cy)) ∧ 5 * m + Q.length + 1 ≤ gk ∧ (∀ c, c ∈ (sidesQ (cx, cy)).take j → S c.1 c.2 = true → T c.1 c.2 = true) ∧ LitQ wq gl cx cy ∧ v.ownBlock ≠ some gl ∧ z ≤ wq.heap.size

set_option maxRecDepth 100000 in
set_option maxHeartbeats 8000000 in
theorem part_ref (b N : Nat) (S : Int → Int → Bool) (x y : Int) (w : World) (hS : SetC w b N S) (hc : S x y = true) (m : Nat) (hcov : Cov m S) (hm : m ≤ 8192) (hin : ∀ p q, S p q = true → (0 ≤ p ∧ p < 256) ∧ 0 ≤ q ∧ q < 256) :
    Calls Tryd.prog 53 #[.map (some b), .agg #[.int .i64 x, .int .i64 y]] w fun e w' => PartT S x y w.heap.size e w' ∧ Below w.heap.size w w' := by
  have hmm := @run_makeMap Tryd.prog
  have hxy := hin x y hc
  have ix : isI64 x := isI64_of (by omega)
  have iy : isI64 y := isI64_of (by omega)
  have HIn := Lib.hid hin
  have HS0 := Lib.hid hS
  have HCov := Lib.hid hcov
  have HC := Lib.hid hc
  have hbl := hS.lt
  clear hin hS hcov hc
  go_enter Tryd.func53, Tryd.ntmps53
  go_upto_region 1 with fail
  obtain ⟨w1, hw1⟩ : ∃ w', w.alloc (.cells #[.int .i64 x, .int .i64 y] 77) = w' := ⟨_, rfl⟩
  have b1 : Below w.heap.size w w1 := by rw [← hw1]; exact (Below.refl _ _).alloc (Nat.le_refl _) _
  have c0 : w1.cell? ⟨w.heap.size, 0, none⟩ = some (.int .i64 x) := by rw [← hw1]; simp [go_sem]
  have c1 : w1.cell? ⟨w.heap.size, 1, none⟩ = some (.int .i64 y) := by rw [← hw1]; simp [go_sem]
  have s1 : w1.heap.size = w.heap.size + 1 := by rw [← hw1]; simp
  rw [hw1]
  have hS0 := SetT.made w1
  have k0 := (World.cell?_alloc_lt w1 (.map #[] 0) ⟨w.heap.size, 0, none⟩ (by rw [s1]; exact Nat.lt_succ_self _)).trans c0
  have k1 := (World.cell?_alloc_lt w1 (.map #[] 0) ⟨w.heap.size, 1, none⟩ (by rw [s1]; exact Nat.lt_succ_self _)).trans c1
  have HS1 := Lib.hid s1
  clear hw1 s1 c0 c1
  go_upto_region 2 with (refine wpList_insert_setT _ rfl _ _ _ 81 rfl setT w1.heap.size 0 _ rfl hS0 (by unfold maxLen; omega) x y rfl rfl ix iy ?_; intro w2 hS2 hg2)
  obtain ⟨D, hD⟩ : ∃ D, w1.heap.size = D := ⟨_, rfl⟩
  have x2 : Xt (fun k => k = D) w1 w2 := ((Xt.refl _ w1).thenBelow ((Below.refl _ _).alloc (Nat.le_refl _) _) (Nat.le_refl _)).grown hg2 (fun r e => by cases e; exact .inl hD)
  have e0 := (hg2.block w.heap.size (by have := HS1.out; simp; omega) (by have := HS1.out; simp; omega))
  have k0 := (World.cell?_of_block (a := ⟨w.heap.size, 0, none⟩) e0).trans k0
  have k1 := (World.cell?_of_block (a := ⟨w.heap.size, 1, none⟩) e0).trans k1
  have z2 : D + 1 ≤ w2.heap.size := by have := hg2.size; simp at this; omega
  have s1 : w.heap.size < D := by have := HS1.out; omega
  have sb : w.heap.size ≤ w1.heap.size := b1.size
  have sD : w1.heap.size ≤ D := by omega
  rw [hD] at hS2 ⊢
  clear e0 hg2 hS0 HS1 hD
  go_wp2_with fail
  obtain ⟨w3, hw3⟩ : ∃ w', w2.alloc (.cells #[.int .i64 x, .int .i64 y] 77) = w' := ⟨_, rfl⟩
  have b3 : Below w2.heap.size w2 w3 := by rw [← hw3]; exact (Below.refl _ _).alloc (Nat.le_refl _) _
  have h3 : w3.heap[w2.heap.size]? = some (.cells #[.int .i64 x, .int .i64 y] 77 (0, 0)) := by rw [← hw3]; exact heap_alloc_new w2 _
  have q3 : QOwn w3 (D + 1) (.slice (some ⟨w2.heap.size, 0, none⟩) 1 1) [(x, y)] := ⟨_, 0, 1, _, rfl, z2, h3, by simp, by unfold maxLen; omega, by simp, fun j u hj => by simpa [flatE, encC] using hj⟩
  rw [hw3]
  have t1 : ∀ p q : Int, (if p = x ∧ q = y then true else false) = true → p = x ∧ q = y := fun p q e => by
    by_cases h : p = x ∧ q = y
    · exact h
    · rw [if_neg h] at e
      cases e
  have hP0 : PqI w1 w3 D (D + 1) S x y (fun p q => if p = x ∧ q = y then true else false) [(x, y)] (0 + 1) m (.slice (some ⟨w2.heap.size, 0, none⟩) 1 1) (fun _ => False) := by
    refine ⟨hS2.of_block2 (b3.block D hS2.lt), q3, x2.thenBelow b3 x2.size, HCov.out.mono (fun p q e => ?_), fun p q e => ?_, ?_, fun c hc => ?_, fun p q h1 h2 => ?_, by omega⟩
    · rw [Bool.and_eq_true] at e
      exact e.1
    · have h := t1 p q e
      rw [h.1, h.2]
      exact HC.out
    · simp
    · rw [List.mem_singleton.1 hc]
      simp
    · have h := t1 p q h1
      rw [h.1, h.2] at h2
      simp at h2
  clear hw3 b3 h3 q3 x2 hS2 k0 k1 z2 t1
  go_loopg [6] (5 * m + 1) (fun k v wr => k ≤ 5 * m + 1 ∧ ∃ T Q n m', PqI w1 wr D (D + 1) S x y T Q n m' v (fun _ => False) ∧ 5 * m' + Q.length ≤ k)
  case atStart => exact ⟨Nat.le_refl _, _, _, _, _, hP0, by simp⟩
  case round =>
    obtain ⟨hgk, T, Q, n, m1, hP, hk⟩ := hrel
    clear hP0
    cases Q with
    | nil =>
      obtain ⟨g, off, cap, cur, rfl, -⟩ := id hP.q
      have hb := hP.xt.below b1 (by omega) (fun b hb => by omega)
      have HPt : PartT S x y w.heap.size (.returned (.map (some D))) wr := ⟨D, n, T, rfl, by omega, hP.set, by have := hP.bound; omega, hP.c0, hP.sub, fun p q h => hP.shut p q h (by simp) (fun e => e)⟩
      have HH := Lib.hid HPt
      clear hP HPt
      simp only [List.length_nil]
      go_wp2_with fail
      go_ret
      exact ⟨HH.out, hb⟩
    | cons c Q =>
      obtain ⟨cx, cy⟩ := c
      obtain ⟨g, off, cap, rfl, ⟨hg1, hg2⟩, ⟨hc1, hc2, hc3⟩, d0, d1, hq⟩ := hP.q.pop
      have hP1 := hP.pop hq
      have hcb := HIn.out _ _ (hP.sub _ _ (hP.inq (cx, cy) (by simp)))
      unfold maxLen at hc3
      simp only [List.length_cons] at hk
      have HP1 := Lib.hid hP1
      clear hP hP1 hq
      have hl0 : (0 : Int) < (Q.length : Int) + 1 := by omega
      go_wp2_with fail
      refine (sides_ref cx cy _ (by omega) (by omega)).mono ?_
      rintro e w5 ⟨⟨gl, rfl, hgl, hL⟩, b5⟩
      have hP5 := HP1.out.move b5
      have s5 := b5.size
      have hLr : gl < w5.heap.size := (Array.getElem?_eq_some_iff.1 hL).1
      obtain ⟨v5, hv5⟩ : ∃ v5, Value.slice (if cap = 1 then some ⟨g, off, none⟩ else some ⟨g, off + 2, none⟩) Q.length (cap - 1) = v5 := ⟨_, rfl⟩
      have hob5 : v5.ownBlock ≠ some gl := by
        rw [← hv5]
        split <;> (simp only [Value.ownBlock, ne_eq, Option.some.injEq]; omega)
      rw [hv5] at hP5
      have HI5 : Hid (InR w1 w5 D S x y cx cy gl gk w5.heap.size 0 v5) := Lib.hid ⟨T, Q, n, m1, hP5, by omega, by simp, hL, hob5, Nat.le_refl _⟩
      clear HP1 hP5 d0 d1 b5 hob5 hL
      go_wp2_with fail
      clear hv5
      obtain ⟨wo, hwo⟩ : ∃ wo : World, wo.heap.size = w5.heap.size := ⟨w5, rfl⟩
      rw [← hwo] at HI5 hLr
      clear hwo
      go_loopw [6, 8] (fun v i wq => ∃ j : Nat, j ≤ 4 ∧ i = .int .i64 j ∧ InR w1 wq D S x y cx cy gl gk wo.heap.size j v) (fun _ i _ => 4 - (intOf i).toNat)
      case atStart => exact ⟨0, by omega, rfl, HI5.out⟩
      case round =>
        obtain ⟨j, hj, rfl, T, Q', n, m2, hP, hk2, htk, hL, hob, hz⟩ := hrel
        by_cases hj4 : j < 4
        · obtain ⟨⟨dx, dy⟩, hd⟩ : ∃ d, (sidesQ (cx, cy))[j]? = some d := ⟨_, List.getElem?_eq_getElem (by simp [sidesQ]; omega)⟩
          have hdb := sideQ_bd hd
          have l0 := (sideQ_at hL hd).1
          have l1 := (sideQ_at hL hd).2
          dsimp only at hdb l0 l1
          have jx : isI64 dx := isI64_of (by omega)
          have jy : isI64 dy := isI64_of (by omega)
          have hji : (j : Int) < 4 := by omega
          have hSb : SetC wr b N S := SetT.setCof HS0.out ((hP.xt.block b (by omega) (by omega)).trans (b1.block b hbl))
          have hn9 := hP.bound
          have hDl := hP.set.lt
          have hLw : gl < wr.heap.size := by omega
          have HCnt := Lib.hid (And.intro hk2 hgk)
          have HP := Lib.hid hP
          have HTk := Lib.hid htk
          have HL := Lib.hid hL
          have HOb := Lib.hid hob
          have HD := Lib.hid hd
          clear hP htk hL hob hd
          cases hs : S dx dy with
          | false =>
            go_wp2_with (at_lookup; refine wpList_lookup_setCu _ rfl _ _ 81 rfl setT b N S rfl hSb dx dy false hs rfl jx jy ?_)
            go_roundw
            case rel =>
              refine ⟨j + 1, by omega, by go_num, T, Q', n, m2, HP.out, hk2, fun c hc hsc => ?_, HL.out, HOb.out, hz⟩
              rcases take_one HD.out hc with h | h
              · exact HTk.out c h hsc
              · rw [h, hs] at hsc; cases hsc
            case measure => simp [intOf]; omega
          | true =>
            have hTC := HP.out.set.setC
            have lk1 := hSb.look (t := 81) setT jx jy
            have lk2 := hTC.look (t := 81) setT jx jy
            rw [hs] at lk1
            cases ht : T dx dy with
            | true =>
              rw [ht] at lk2
              go_wp2_with fail
              go_roundw
              case rel =>
                refine ⟨j + 1, by omega, by go_num, T, Q', n, m2, HP.out, hk2, fun c hc hsc => ?_, HL.out, HOb.out, hz⟩
                rcases take_one HD.out hc with h | h
                · exact HTk.out c h hsc
                · rw [h]; exact ht
              case measure => simp [intOf]; omega
            | false =>
              rw [ht] at lk2
              have hn1 : n < maxLen := by unfold maxLen; omega
              have hq := HP.out.q
              have hqg := fun g (h : u6.ownBlock = some g) => hq.lt h
              have hLq : Q'.length + 1 ≤ 1000000 := by
                have := HCnt.out
                omega
              go_wp2_with (first
                | (at_mapUpdate; refine wpList_update_setT _ rfl _ _ _ 81 rfl setT D n T rfl HP.out.set hn1 dx dy rfl rfl jx jy ?_; intro w6 hS6 hg6; have hL6 : LitQ w6 gl cx cy := (hg6.block gl hLw (fun e => by cases e; omega)).trans HL.out; have l0 := (sideQ_at hL6 HD.out).1; have l1 := (sideQ_at hL6 HD.out).2; have hq6 := (hq.of fun g e => hg6.block g (hqg g e).2 (fun e' => by cases e'; have := (hqg _ e).1; omega)).below ((Below.refl _ _).alloc (Nat.le_refl _) (.cells #[.int .i64 dx, .int .i64 dy] 77)); have hs6 := hg6.size)
                | (at_builtin; go_loud (refine wpList_append_queue _ rfl _ _ 74 rfl Tryd.underlying74 (D + 1) _ Q' rfl hq6 ⟨w6.heap.size, 0, none⟩ 1 dx dy rfl (newsLit (cs := #[.int .i64 dx, .int .i64 dy]) rfl) hLq (by simp; omega) (w6.heap.size + 1) (by simp) ?_); intro v7 w7 hq7 hg7 ho7))
              have hal := (Below.refl w6.heap.size w6).alloc (Nat.le_refl _) (.cells #[.int .i64 dx, .int .i64 dy] 77)
              have hL7 : LitQ w7 gl cx cy := ((hg7.block gl (by simp; omega) (fun e => HOb.out e.symm)).trans (hal.block gl (by omega))).trans hL6
              have hS7 := hS6.of_block2 ((hg7.block D (by have := hS6.lt; simp; omega) (fun e => by have := (hqg _ e.symm).1; omega)).trans (hal.block D hS6.lt))
              have x7 : Xt (fun k => k = D) w1 w7 := ((HP.out.xt.grown hg6 (fun r e => by cases e; exact .inl rfl)).thenBelow hal (by have := HP.out.xt.size; omega)).grown hg7 (fun r e => .inr (by have := (hqg r e).1; omega))
              obtain ⟨m3, rfl, hP7⟩ := HP.out.add hs ht hS7 hq7 x7
              have hz7 := hg7.size
              rw [size_allocO] at hz7
              refine ⟨⟨j + 1, by omega, by go_num, _, _, _, m3, hP7, by simp; omega, fun c hc hsc => ?_, hL7, ?_, by omega⟩, by simp [intOf]; omega⟩
              · by_cases e : c.1 = dx ∧ c.2 = dy
                · rw [if_pos e]
                · rw [if_neg e]
                  rcases take_one HD.out hc with h | h
                  · exact HTk.out c h hsc
                  · rw [h] at e
                    exact absurd ⟨rfl, rfl⟩ e
              · rcases ho7 with h | ⟨g7, h, h'⟩
                · rw [h]
                  exact HOb.out
                · rw [h]
                  intro e
                  cases e
                  omega
        · obtain rfl : j = 4 := by omega
          have hPd := hP.done (fun c hc hsc => htk c (by simpa [sidesQ] using hc) hsc)
          have HPd := Lib.hid hPd
          clear hP htk hL hob hPd
          go_wp2_with fail
          go_roundg (5 * m2 + Q'.length)
          case measure => omega
          case rel => exact ⟨by omega, T, Q', n, m2, HPd.out, Nat.le_refl _⟩
end Go.Proofs.YtnbdnnbeiohmgaaDoor
/- The document's cells of a set, and its parts of a region that hangs together. -/
namespace Go.Proofs.YtnbdnnbeiohmgaaDoor
open Go.RowKit Go.Maps Go.Shelf Go.Lib

def rowS (S : Int → Int → Bool) (y n : Nat) : List (Int × Int) := (rowEv y n).filter fun c => S c.1 c.2
def cellsS (S : Int → Int → Bool) (W n : Nat) : List (Int × Int) := (everyL W n).filter fun c => S c.1 c.2
theorem rowS_len (S : Int → Int → Bool) (y n : Nat) : (rowS S y n).length ≤ n := by
  have h := List.length_filter_le (fun c : Int × Int => S c.1 c.2) (rowEv y n)
  rw [rowEv_len] at h
  exact h
theorem cellsS_len (S : Int → Int → Bool) (W n : Nat) : (cellsS S W n).length ≤ n * W := by
  have h := List.length_filter_le (fun c : Int × Int => S c.1 c.2) (everyL W n)
  rw [everyL_len] at h
  exact h
theorem rowS_yes {S : Int → Int → Bool} {y j : Nat} (h : S (j : Int) (y : Int) = true) : rowS S y (j + 1) = rowS S y j ++ [((j : Int), (y : Int))] := by simp [rowS, rowEv, h]
theorem rowS_no {S : Int → Int → Bool} {y j : Nat} (h : S (j : Int) (y : Int) = false) : rowS S y (j + 1) = rowS S y j := by simp [rowS, rowEv, h]
theorem cellsS_succ (S : Int → Int → Bool) (W n : Nat) : cellsS S W (n + 1) = cellsS S W n ++ rowS S n W := by simp [cellsS, rowS, everyL]

set_option maxRecDepth 100000 in
set_option maxHeartbeats 8000000 in
theorem cells_ref (W H Z : Int) (vL : Value) (b N : Nat) (S : Int → Int → Bool) (w : World) (hW : 1 ≤ W ∧ W ≤ 256) (hH : 1 ≤ H ∧ H ≤ 256) (hS : SetC w b N S) :
    Calls Tryd.prog 52 #[.agg #[.int .i64 W, .int .i64 H, .int .i64 Z, vL], .map (some b)] w fun e w' => (∃ v, e = .returned v ∧ Lst 2 encC w' v (cellsS S W.toNat H.toNat)) ∧ Below w.heap.size w w' := by
  have HS0 := Lib.hid hS
  have hbl := hS.lt
  clear hS
  go_enter Tryd.func52, Tryd.ntmps52
  go_wp2_with fail
  have b1 : Below w.heap.size w (w.alloc (.cells #[.int .i64 W, .int .i64 H, .int .i64 Z, vL] 37)) := (Below.refl w.heap.size w).alloc (Nat.le_refl _) _
  have c0 : (w.alloc (.cells #[.int .i64 W, .int .i64 H, .int .i64 Z, vL] 37)).cell? ⟨w.heap.size, 0, none⟩ = some (.int .i64 W) := by simp [go_sem]
  have c1 : (w.alloc (.cells #[.int .i64 W, .int .i64 H, .int .i64 Z, vL] 37)).cell? ⟨w.heap.size, 1, none⟩ = some (.int .i64 H) := by simp [go_sem]
  have z1 : (w.alloc (.cells #[.int .i64 W, .int .i64 H, .int .i64 Z, vL] 37)).heap.size = w.heap.size + 1 := by simp
  obtain ⟨w1, hw1⟩ : ∃ w1, w.alloc (.cells #[.int .i64 W, .int .i64 H, .int .i64 Z, vL] 37) = w1 := ⟨_, rfl⟩
  rw [hw1] at b1 c0 c1 z1 ⊢
  clear hw1
  obtain ⟨B, hB⟩ : ∃ B, w.heap.size = B := ⟨_, rfl⟩
  rw [hB] at b1 c0 c1 z1 hbl ⊢
  obtain ⟨nW, hnW⟩ : ∃ n : Nat, W = n := ⟨W.toNat, by omega⟩
  subst hnW
  have hWt : ((nW : Int)).toNat = nW := by omega
  have HWt := Lib.hid hWt
  clear hWt
  go_loopw [5, 6] (fun o i wr => ∃ k : Nat, (k : Int) ≤ H ∧ i = .int .i64 k ∧ wr.ownsRow (B + 1) 77 2 o (cellsS S nW k).length (flatE encC (cellsS S nW k)) ∧ wr.cell? ⟨B, 0, none⟩ = some (.int .i64 (nW : Int)) ∧ wr.cell? ⟨B, 1, none⟩ = some (.int .i64 H) ∧ Below B w wr ∧ B + 1 ≤ wr.heap.size) (fun _ i _ => H.toNat - (intOf i).toNat)
  case atStart => exact ⟨0, by simp; omega, rfl, World.ownsRow_nil _ _ _ _, c0, c1, b1, by omega⟩
  case round =>
    obtain ⟨k, hk, rfl, hown, d0, d1, hb, hz⟩ := hrel
    clear c0 c1 b1 z1
    by_cases hlt : (k : Int) < H
    · obtain ⟨L, hL⟩ : ∃ L, cellsS S nW k = L := ⟨_, rfl⟩
      have hLl : L.length ≤ 65536 := by
        rw [← hL]
        have h1 := cellsS_len S nW k
        have := Nat.mul_le_mul (show k ≤ 256 by omega) (show nW ≤ 256 by omega)
        omega
      rw [hL] at hown
      have HL := Lib.hid hL
      clear hL
      have hB1 : B < wr.heap.size := by omega
      go_wp2_with fail
      go_loopw [5, 7] (fun o i wq => ∃ j : Nat, j ≤ nW ∧ i = .int .i64 j ∧ wq.ownsRow (B + 1) 77 2 o (L ++ rowS S k j).length (flatE encC (L ++ rowS S k j)) ∧ wq.cell? ⟨B, 0, none⟩ = some (.int .i64 (nW : Int)) ∧ wq.cell? ⟨B, 1, none⟩ = some (.int .i64 H) ∧ Below B w wq ∧ B + 1 ≤ wq.heap.size) (fun _ i _ => nW - (intOf i).toNat)
      case atStart => exact ⟨0, Nat.zero_le _, rfl, by simpa [rowS, rowEv] using hown, d0, d1, hb, hz⟩
      case round =>
        obtain ⟨j, hj, rfl, hown, d0, d1, hb, hz⟩ := hrel
        by_cases hjl : j < nW
        · have hjI : (j : Int) < (nW : Int) := by omega
          have hMl : (L ++ rowS S k j).length ≤ 65536 + 256 := by have := rowS_len S k j; rw [List.length_append]; omega
          obtain ⟨M, hM⟩ : ∃ M, L ++ rowS S k j = M := ⟨_, rfl⟩
          rw [hM] at hown hMl
          have HM := Lib.hid hM
          clear hM
          obtain ⟨i0, hi, hz0, hz1, hz2⟩ := info_parts infoC
          have hB1 : B < wr.heap.size := by omega
          have hSb := (SetT.setCof HS0.out (hb.block b (by omega))).alloc (.cells #[.int .i64 (j : Int), .int .i64 (k : Int)] 77)
          have jx : isI64 (j : Int) := isI64_of (by omega)
          have jy : isI64 (k : Int) := isI64_of (by omega)
          have lk := hSb.look (t := 81) setT jx jy
          have hba : Below B w (wr.alloc (.cells #[.int .i64 (j : Int), .int .i64 (k : Int)] 77)) := hb.alloc (by omega) _
          have e0 := (World.cell?_alloc_lt wr (.cells #[.int .i64 (j : Int), .int .i64 (k : Int)] 77) ⟨B, 0, none⟩ hB1).trans d0
          have e1 := (World.cell?_alloc_lt wr (.cells #[.int .i64 (j : Int), .int .i64 (k : Int)] 77) ⟨B, 1, none⟩ hB1).trans d1
          cases hs : S (j : Int) (k : Int) with
          | false =>
            rw [hs] at lk
            have hown5 := hown.alloc (.cells #[.int .i64 (j : Int), .int .i64 (k : Int)] 77)
            rw [← HM.out, ← rowS_no hs] at hown5
            have HO5 := Lib.hid hown5
            have HBA := Lib.hid (And.intro hba (And.intro e0 e1))
            clear hown5 hba e0 e1 hown
            go_wp2_with fail
            go_roundw
            case rel => exact ⟨j + 1, by omega, by go_num, HO5.out, HBA.out.2.1, HBA.out.2.2, HBA.out.1, by simp; omega⟩
            case measure => simp [intOf]; omega
          | true =>
            rw [hs] at lk
            have hown4 := (hown.alloc (.cells #[.int .i64 (j : Int), .int .i64 (k : Int)] 77)).alloc (.cells #[.int .i64 (j : Int), .int .i64 (k : Int)] 77)
            have HBA := Lib.hid (And.intro hba (And.intro e0 e1))
            clear hba e0 e1
            have hBq : B + 1 ≤ ((wr.alloc (.cells #[.int .i64 (j : Int), .int .i64 (k : Int)] 77)).alloc (.cells #[.int .i64 (j : Int), .int .i64 (k : Int)] 77)).heap.size := by simp; omega
            go_wp2_with (at_builtin; refine wpList_append_lies _ rfl _ _ _ rfl (B + 1) 77 i0 _ 2 16 Tryd.underlying74 hi hz0 hz1 hz2 rfl (by omega) u5 M.length (flatE encC M) rfl hown4 ⟨wr.heap.size + 1, 0, none⟩ 1 1 [.int .i64 (j : Int), .int .i64 (k : Int)] rfl rfl (newsLit (cs := #[.int .i64 (j : Int), .int .i64 (k : Int)]) (by simp)) (by simp [Value.oneCell']) (by omega) (by unfold maxLen; omega) (by omega) hBq (wr.heap.size + 1 + 1) (by simp) ?_; intro gg cap5 w5 hown5 hgrow hat hlt5)
            have hob : ∀ g, u5.ownBlock = some g → B + 1 ≤ g ∧ g < wr.heap.size := fun g hg => ownBlock_lt hown hg
            have hb5 : Below B w w5 := (HBA.out.1.alloc (by simp; omega) _).grown hgrow (by simp; omega) (fun q hq => by have := (hob _ hq).1; omega)
            have hne5 : some B ≠ u5.ownBlock := fun e => by have := (hob _ e.symm).1; omega
            have d0 := (hgrow.cell_far ⟨B, 0, none⟩ (by simp; omega) hne5).trans ((World.cell?_alloc_lt _ _ ⟨B, 0, none⟩ (by simp; omega)).trans HBA.out.2.1)
            have d1 := (hgrow.cell_far ⟨B, 1, none⟩ (by simp; omega) hne5).trans ((World.cell?_alloc_lt _ _ ⟨B, 1, none⟩ (by simp; omega)).trans HBA.out.2.2)
            have hz5 : B + 1 ≤ w5.heap.size := by have := hgrow.size; simp at this; omega
            have hown5 : w5.ownsRow (B + 1) 77 2 (.slice (some ⟨gg, 0, none⟩) (M.length + 1) cap5) (L ++ rowS S k (j + 1)).length (flatE encC (L ++ rowS S k (j + 1))) := by rw [rowS_yes hs, ← List.append_assoc, HM.out, flatE_append, List.length_append]; exact hown5
            go_roundw
            case rel => exact ⟨j + 1, by omega, by go_num, hown5, d0, d1, hb5, hz5⟩
            case measure => simp [intOf]; omega
        · have hje : j = nW := by omega
          subst hje
          go_wp2_with fail
          go_roundw
          case rel => exact ⟨k + 1, by push_cast; omega, by go_num, by rw [cellsS_succ, HL.out]; exact hown, d0, d1, hb, hz⟩
          case measure => simp [intOf]; omega
    · have hke : (k : Int) = H := by omega
      have hkn : H.toNat = k := by omega
      have hfin := Lst_of_own encC_len hown rfl
      have HF := Lib.hid hfin
      have HK := Lib.hid hkn
      clear hown hfin hkn
      go_wp2_with fail
      go_ret
      exact ⟨⟨u5, rfl, by first | exact HF.out | (rw [HK.out]; exact HF.out)⟩, by first | exact hb | (rw [hB]; exact hb)⟩

/-- what the loop over the cells keeps -/
def PrR (w5 wr : World) (Ms : Nat) (S : Int → Int → Bool) (j : Nat) (v : Value) : Prop :=
  ((j = 0 ∧ v = .slice none 0 0 ∧ SetT wr Ms 0 (fun _ _ => false)) ∨ (0 < j ∧ (∃ A c, v = .slice A 1 c) ∧ ∃ m, SetT wr Ms m S)) ∧ Xt (fun k => k = Ms) w5 wr
/-- the facts of the call that stay -/
structure PrF (w5 : World) (B bs N Ms : Nat) (W H Z : Int) (vL : Value) (S : Int → Int → Bool) : Prop where
  c0 : w5.cell? ⟨B, 0, none⟩ = some (.int .i64 W)
  c1 : w5.cell? ⟨B, 1, none⟩ = some (.int .i64 H)
  c2 : w5.cell? ⟨B, 2, none⟩ = some (.int .i64 Z)
  c3 : w5.cell? ⟨B, 3, none⟩ = some vL
  set : SetC w5 bs N S
  ms : Ms < w5.heap.size ∧ B < Ms ∧ bs < Ms
theorem PrF.xt {w5 wr : World} {B bs N Ms : Nat} {W H Z : Int} {vL : Value} {S : Int → Int → Bool} (h : PrF w5 B bs N Ms W H Z vL S) (k : Xt (fun k => k = Ms) w5 wr) : PrF wr B bs N Ms W H Z vL S := by
  have hB : B < w5.heap.size := by have := h.ms; omega
  have hne : ¬ B = Ms := by have := h.ms; omega
  exact ⟨(k.cell (a := ⟨B, 0, none⟩) hB hne).trans h.c0, (k.cell (a := ⟨B, 1, none⟩) hB hne).trans h.c1, (k.cell (a := ⟨B, 2, none⟩) hB hne).trans h.c2, (k.cell (a := ⟨B, 3, none⟩) hB hne).trans h.c3, SetT.setCof h.set (k.block bs (by have := h.ms; omega) (by have := h.ms; omega)), ⟨Nat.lt_of_lt_of_le h.ms.1 k.size, h.ms.2⟩⟩
theorem part_all {S T : Int → Int → Bool} {x y : Int} (hconn : Conn S (x, y)) (h0 : T x y = true) (hsub : ∀ p q, T p q = true → S p q = true) (hs : ∀ p q, T p q = true → ∀ c, c ∈ sidesL (p, q) → S c.1 c.2 = true → T c.1 c.2 = true) : T = S := by
  funext p q
  cases e : S p q with
  | false =>
    cases e2 : T p q with
    | false => rfl
    | true => rw [hsub p q e2] at e; cases e
  | true =>
    have h := hconn (fun p q => S p q && !T p q) (by dsimp only; rw [h0]; simp) (fun p q h1 h2 c hc => by
      have h3 : T p q = true := by simpa [h1] using h2
      show (S c.1 c.2 && !T c.1 c.2) = false
      cases e4 : S c.1 c.2 with
      | false => rfl
      | true => rw [hs p q h3 c hc e4]; rfl) p q e
    simpa [e] using h
theorem infoRowP : (Tryd.prog.info? 35).map (fun i => (i.zero, i.size, i.bytes)) = some (some (.slice none 0 0), 1, 24) := by kernel_rfl

set_option maxRecDepth 100000 in
set_option maxHeartbeats 8000000 in
theorem parts_ref (W H Z : Int) (vL vR : Value) (ld R : List R3) (w : World) (hW : 1 ≤ W ∧ W ≤ 256) (hH : 1 ≤ H ∧ H ≤ 256) (hZ : 1 ≤ Z ∧ Z ≤ 50000) (hLd : Runs w vL ld) (hpL : Proper W H ld) (hlL : ld.length ≤ 8192)
    (hR : Runs w vR R) (hpR : Proper W H R) (hlR : R.length ≤ 8192) (cx cy : Int) (rest : List (Int × Int)) (hfirst : cellsS (hasL R) W.toNat H.toNat = (cx, cy) :: rest) (hconn : Conn (hasL R) (cx, cy)) (hWH : W * H ≤ 8192) :
    Calls Tryd.prog 29 #[.agg #[.int .i64 W, .int .i64 H, .int .i64 Z, vL], vR] w fun e w' => (∃ A c, e = .returned (.tuple #[.slice A 1 c, .int .i64 0])) ∧ Below w.heap.size w w' := by
  have hmm := @run_makeMap Tryd.prog
  have HR := Lib.hid hR
  have HLd := Lib.hid hLd
  obtain ⟨A, cap, rfl, -⟩ := hR
  have HConn := Lib.hid hconn
  have HFirst := Lib.hid hfirst
  have hrows := hpR.rows
  have HRows := Lib.hid hrows
  clear hLd hconn hfirst hrows
  go_enter Tryd.func29, Tryd.ntmps29
  go_upto_region 1 with fail
  have b1 : Below w.heap.size w (w.alloc (.cells #[.int .i64 W, .int .i64 H, .int .i64 Z, vL] 37)) := (Below.refl w.heap.size w).alloc (Nat.le_refl _) _
  have hz1 : w.heap.size + 1 = (w.alloc (.cells #[.int .i64 W, .int .i64 H, .int .i64 Z, vL] 37)).heap.size := by simp
  have c0 : (w.alloc (.cells #[.int .i64 W, .int .i64 H, .int .i64 Z, vL] 37)).cell? ⟨w.heap.size, 0, none⟩ = some (.int .i64 W) := by simp [go_sem]
  have c1 : (w.alloc (.cells #[.int .i64 W, .int .i64 H, .int .i64 Z, vL] 37)).cell? ⟨w.heap.size, 1, none⟩ = some (.int .i64 H) := by simp [go_sem]
  have c2 : (w.alloc (.cells #[.int .i64 W, .int .i64 H, .int .i64 Z, vL] 37)).cell? ⟨w.heap.size, 2, none⟩ = some (.int .i64 Z) := by simp [go_sem]
  have c3 : (w.alloc (.cells #[.int .i64 W, .int .i64 H, .int .i64 Z, vL] 37)).cell? ⟨w.heap.size, 3, none⟩ = some vL := by simp [go_sem]
  obtain ⟨w1, hw1⟩ : ∃ w1, (w.alloc (.cells #[.int .i64 W, .int .i64 H, .int .i64 Z, vL] 37)) = w1 := ⟨_, rfl⟩
  rw [hw1] at b1 c0 c1 c2 c3 hz1 ⊢
  clear hw1
  obtain ⟨B, hB⟩ : ∃ B, w.heap.size = B := ⟨_, rfl⟩
  rw [hB] at b1 c0 c1 c2 c3 hz1 ⊢
  have hzB : B < w1.heap.size := by omega
  have b1' := b1.alloc (by omega) (.cells #[.slice A R.length cap] 35)
  have hchk := valid_ref W H Z vL (.slice (some ⟨w1.heap.size, 0, none⟩) 1 1) ld [.slice A R.length cap] [R] (w1.alloc (.cells #[.slice A R.length cap] 35)) hW hH hZ (HLd.out.below (by rw [hB]; exact b1')) hpL hlL (Lst_lit (enc := enc1) (k := 1) (fun _ => rfl) w1 w1.heap.size 1 rfl #[.slice A R.length cap] [.slice A R.length cap] 35 rfl rfl (by unfold maxLen; omega)) rfl (fun i u x hu hx => by
    match i, hu, hx with
    | 0, hu, hx => simp at hu hx; subst hu hx; exact ⟨HR.out.below (by rw [hB]; exact b1'), hpR, hlR⟩
    | i + 1, hu, hx => simp at hu)
  have HChk := Lib.hid hchk
  have w1b : Below w1.heap.size w1 (w1.alloc (.cells #[.slice A R.length cap] 35)) := (Below.refl _ _).alloc (Nat.le_refl _) _
  clear hchk hz1
  go_wp2_with fail
  refine HChk.out.mono ?_
  rintro e w2 ⟨rfl, hb2⟩
  have k2 := w1b.trans (hb2.mono w1b.size)
  have b2 := b1.trans (k2.mono (by omega))
  have z2 := k2.size
  have c0 := (k2.cell (p := ⟨B, 0, none⟩) hzB).trans c0
  have c1 := (k2.cell (p := ⟨B, 1, none⟩) hzB).trans c1
  have c2 := (k2.cell (p := ⟨B, 2, none⟩) hzB).trans c2
  have c3 := (k2.cell (p := ⟨B, 3, none⟩) hzB).trans c3
  have HO := Lib.hid (of_ref (.slice A R.length cap) R w2 (HR.out.below (by rw [hB]; exact b2)) (fun r hr => by have := HRows.out r hr; omega) hlR)
  clear HChk w1b hb2 k2 b1 b1'
  go_wp2_with fail
  refine HO.out.mono ?_
  rintro e w3 ⟨⟨bs, N, rfl, hS3, hbs⟩, hb3⟩
  have b3 := b2.trans (hb3.mono (by omega))
  have z3 := hb3.size
  have c0 := (hb3.cell (p := ⟨B, 0, none⟩) (by show B < _; omega)).trans c0
  have c1 := (hb3.cell (p := ⟨B, 1, none⟩) (by show B < _; omega)).trans c1
  have c2 := (hb3.cell (p := ⟨B, 2, none⟩) (by show B < _; omega)).trans c2
  have c3 := (hb3.cell (p := ⟨B, 3, none⟩) (by show B < _; omega)).trans c3
  have HCe := Lib.hid (cells_ref W H Z vL bs N (hasL R) w3 hW hH hS3)
  have HS3 := Lib.hid hS3
  have hbs3 := hS3.lt
  clear HO hb3 b2 hS3
  go_wp2_with fail
  refine HCe.out.mono ?_
  rintro e w4 ⟨⟨vl, rfl, hl⟩, hb4⟩
  rw [HFirst.out] at hl
  obtain ⟨n, hn⟩ : ∃ n, ((cx, cy) :: rest).length = n := ⟨_, rfl⟩
  have hn1 : 1 ≤ n := by rw [← hn]; simp
  have hnm : n ≤ 65536 := by
    have h1 := cellsS_len (hasL R) W.toNat H.toNat
    rw [HFirst.out, hn] at h1
    have := Nat.mul_le_mul (show H.toNat ≤ 256 by omega) (show W.toNat ≤ 256 by omega)
    omega
  obtain ⟨A4, c4, rfl, hl4, hm4, ha4⟩ := hl
  rw [hn] at hl4 ha4 ⊢
  unfold maxLen at hm4
  have b4 := b3.trans (hb4.mono (by omega))
  have z4 := hb4.size
  have hF4 : PrF (w4.alloc (.map #[] 0)) B bs N w4.heap.size W H Z vL (hasL R) := by
    have hal := (Below.refl w4.heap.size w4).alloc (Nat.le_refl _) (.map #[] 0)
    have kk := hb4.trans (hal.mono z4)
    exact ⟨(kk.cell (p := ⟨B, 0, none⟩) (by show B < _; omega)).trans c0, (kk.cell (p := ⟨B, 1, none⟩) (by show B < _; omega)).trans c1, (kk.cell (p := ⟨B, 2, none⟩) (by show B < _; omega)).trans c2, (kk.cell (p := ⟨B, 3, none⟩) (by show B < _; omega)).trans c3, SetT.setCof HS3.out (kk.block bs hbs3), ⟨by simp, by omega, by omega⟩⟩
  have HF4 := Lib.hid hF4
  have hSm := SetT.made w4
  have HSm := Lib.hid hSm
  have b5 := b4.alloc (by omega) (.map #[] 0)
  have z5 : w4.heap.size < (w4.alloc (.map #[] 0)).heap.size := by simp
  have ha5 : ∃ b off, A4 = some ⟨b, off, none⟩ ∧ b < w4.heap.size ∧ ∀ (j : Nat) (x : Int × Int), ((cx, cy) :: rest)[j]? = some x → (w4.alloc (.map #[] 0)).cell? ⟨b, off + j * 2, none⟩ = some (.int .i64 x.1) ∧ (w4.alloc (.map #[] 0)).cell? ⟨b, off + j * 2 + 1, none⟩ = some (.int .i64 x.2) := by
    obtain ⟨b, off, e, hb, hcs⟩ := ha4 (by omega)
    exact ⟨b, off, e, hb, fun j x hx => ⟨(World.cell?_alloc_lt w4 _ ⟨b, off + j * 2, none⟩ hb).trans (hcs j 0 x _ hx rfl), (World.cell?_alloc_lt w4 _ ⟨b, off + j * 2 + 1, none⟩ hb).trans (hcs j 1 x _ hx rfl)⟩⟩
  obtain ⟨bl, ol, rfl, hbl, hcl⟩ := ha5
  have HCl := Lib.hid hcl
  have HN := Lib.hid hn
  clear HCe hb4 b3 c0 c1 c2 c3 hF4 hSm ha4 hcl HS3 hn
  go_wp2_with fail
  obtain ⟨Ms, hMs⟩ : ∃ Ms, w4.heap.size = Ms := ⟨_, rfl⟩
  obtain ⟨w5, hw5⟩ : ∃ w5, w4.alloc (.map #[] 0) = w5 := ⟨_, rfl⟩
  rw [hMs] at HF4 HSm z5 hbl z4 ⊢
  rw [hw5] at HF4 HSm b5 z5 HCl ⊢
  clear hMs hw5 hmm
  obtain ⟨Sf, hSf⟩ : ∃ Sf, hasL R = Sf := ⟨_, rfl⟩
  rw [hSf] at HF4 HConn HFirst
  have HSf := Lib.hid hSf
  clear hSf
  go_loopw [10, 11] (fun v i wr => ∃ j : Nat, j ≤ n ∧ i = .int .i64 j ∧ PrR w5 wr Ms Sf j v) (fun _ i _ => n - (intOf i).toNat)
  case atStart => exact ⟨0, Nat.zero_le _, rfl, .inl ⟨rfl, rfl, HSm.out⟩, Xt.refl _ _⟩
  case round =>
    obtain ⟨j, hj, rfl, hPr, hx⟩ := hrel
    have hF := HF4.out.xt hx
    have bb := hx.below b5 (by omega) (fun b hb => by omega)
    have hM1 := hF.ms.1
    by_cases hlt : j < n
    · obtain ⟨⟨px, py⟩, hp⟩ : ∃ p, ((cx, cy) :: rest)[j]? = some p := ⟨_, List.getElem?_eq_getElem (by rw [HN.out]; exact hlt)⟩
      have l0 := (hx.cell (a := ⟨bl, ol + j * 2, none⟩) (by show bl < _; omega) (by show ¬ bl = Ms; omega)).trans (HCl.out j _ hp).1
      have l1 := (hx.cell (a := ⟨bl, ol + j * 2 + 1, none⟩) (by show bl < _; omega) (by show ¬ bl = Ms; omega)).trans (HCl.out j _ hp).2
      dsimp only at l0 l1
      have hpS : Sf px py = true := by
        have hm := List.mem_of_getElem? hp
        rw [← HFirst.out] at hm
        exact (List.mem_filter.1 hm).2
      have hpb : (0 ≤ px ∧ px < 256) ∧ 0 ≤ py ∧ py < 256 := by
        have h := hpS
        rw [← HSf.out] at h
        obtain ⟨r, hr, h1, h2, h3⟩ := hasL_iff.1 h
        have := HRows.out r hr
        omega
      have jx : isI64 px := isI64_of (by omega)
      have jy : isI64 py := isI64_of (by omega)
      have hji : (j : Int) < (n : Int) := by omega
      rcases hPr with ⟨hj0, rfl, hS0⟩ | ⟨hj0, ⟨A6, c6, rfl⟩, m6, hS1⟩
      · have lk := hS0.setC.look (t := 81) setT jx jy
        have hpc : px = cx ∧ py = cy := by
          rw [hj0] at hp
          simp only [List.getElem?_cons_zero, Option.some.injEq, Prod.mk.injEq] at hp
          exact ⟨hp.1.symm, hp.2.symm⟩
        have hPart := part_ref bs N Sf px py wr hF.set hpS 8192 ⟨(cx, cy) :: rest, by
          rw [HN.out]
          have h1 := cellsS_len Sf W.toNat H.toNat
          rw [HFirst.out, HN.out] at h1
          have h2 : ((H.toNat * W.toNat : Nat) : Int) ≤ 8192 := by
            rw [Int.natCast_mul, Int.toNat_of_nonneg (by omega), Int.toNat_of_nonneg (by omega), Int.mul_comm]
            exact hWH
          omega, fun p q h => by
          rw [← HFirst.out]
          refine List.mem_filter.2 ⟨?_, h⟩
          rw [← HSf.out] at h
          obtain ⟨r, hr, h1, h2, h3⟩ := hasL_iff.1 h
          have := HRows.out r hr
          exact mem_everyL.2 (by omega)⟩ (Nat.le_refl _) (fun p q h => by
          rw [← HSf.out] at h
          obtain ⟨r, hr, h1, h2, h3⟩ := hasL_iff.1 h
          have := HRows.out r hr
          omega)
        have HPart := Lib.hid hPart
        have HFf := Lib.hid hF
        have HX := Lib.hid hx
        have HS0 := Lib.hid hS0
        have HB := Lib.hid bb
        have HP := Lib.hid hp
        have HJ := Lib.hid hj0
        have HPc := Lib.hid hpc
        clear hPart hF hx hS0 bb hp hj0 hpc
        go_wp2_with fail
        refine HPart.out.mono ?_
        rintro e w6 ⟨⟨d, nd, T, rfl, hd, hT, hnd, hT0, hTs, hTc⟩, hb6⟩
        have hTS : T = Sf := part_all (x := px) (y := py) (by rw [HPc.out.1, HPc.out.2]; exact HConn.out) hT0 hTs hTc
        rw [hTS] at hT
        have hx6 := HX.out.thenBelow hb6 HX.out.size
        have hF6 := HFf.out.xt (Xt.refl _ _ |>.thenBelow hb6 (Nat.le_refl _))
        have hS6 := HS0.out.of_block2 (hb6.block Ms hM1)
        have s6 := hb6.size
        obtain ⟨Dm, hown, hSD⟩ := hT
        have HSD := Lib.hid hSD
        have HX6 := Lib.hid hx6
        have HF6 := Lib.hid hF6
        have HS6 := Lib.hid hS6
        have hdM : Ms < d := by omega
        have hdl := hown.lt
        clear hT0 hTs hTc hTS hb6 HPart HFf HX HS0 hSD hx6 hF6 hS6 lk l0 l1
        go_wp2_with (at_range; go_loud (refine wpList_range_own _ rfl _ _ rfl 77 4 lawC setT (plainElem Tryd.prog 4) d nd Dm rfl hown ?_); intro w7 hrg hg7 hs7)
        go_frame
        obtain ⟨Rr, hRr⟩ : ∃ Rr, w6.heap.size = Rr := ⟨_, rfl⟩
        have hS7 := (HS6.out.kept hg7 (by simp)).ext (S' := inC []) (fun p q => by simp [inC])
        have HX7 := Lib.hid (HX6.out.grown hg7 (fun r e => by cases e))
        have HF7 := Lib.hid (HF6.out.xt ((Xt.refl _ _).grown hg7 (fun r e => by cases e)))
        have HS7 := Lib.hid hS7
        have hR5 : w5.heap.size ≤ Rr := by rw [← hRr]; exact HX6.out.size
        rw [hRr] at hrg hs7 hdl s6 ⊢
        clear hg7 hS7 hRr hown
        go_loopw [13] (fun _ wq => ∃ (Lq : List (Int × Int)) (left : Lit → Bool) (cnt m : Nat), wq.ranges Tryd.prog 77 (plainElem Tryd.prog 4) d Rr nd Dm left cnt ∧ LeftT Dm Lq left ∧ (∀ c, c ∈ Lq → (isI64 c.1 ∧ isI64 c.2) ∧ Maps.has Dm (cellK c.1 c.2) = true) ∧ Lq.length + cnt ≤ nd ∧ SetT wq Ms m (inC Lq) ∧ m ≤ Lq.length ∧ Xt (fun k => k = Ms ∨ k = Rr) w7 wq) (fun _ wq => wq.rangeLeft d Rr)
        case atStart => exact ⟨[], _, _, 0, hrg, LeftT.start Dm, by simp, by have := hrg.owns.size_le; simp; omega, HS7.out, by simp, Xt.refl _ _⟩
        case round =>
          obtain ⟨Lq, left, cnt, m7, hrg, hleft, hmem, hlen, hSq, hm7, hxq⟩ := hrel
          have hsq := hxq.size
          go_wp2_with (at_next; refine wpList_next_cells _ rfl _ rfl d Rr nd Dm left cnt rfl hrg ?_ ?_)
          · intro hc0 hl0
            have hin : inC Lq = Sf := by
              funext p q
              cases e : Sf p q with
              | true =>
                have h := e
                rw [← HSf.out] at h
                obtain ⟨r, hr, h1, h2, h3⟩ := hasL_iff.1 h
                have := HRows.out r hr
                have hm := hleft.done HSD.out hl0 (isI64_of (by omega)) (isI64_of (by omega)) e
                simp [inC, hm]
              | false =>
                unfold inC
                rw [decide_eq_false_iff_not]
                intro hm
                obtain ⟨⟨i1, i2⟩, h⟩ := hmem _ hm
                rw [(HSD.out p q i1 i2).2] at h
                rw [h] at e
                cases e
            rw [hin] at hSq
            have hFq : PrF wr B bs N Ms W H Z vL Sf := by
              have h := HF7.out
              have hB1 : B < w7.heap.size := by have := h.ms; omega
              have hB2 : ¬ (B = Ms ∨ B = Rr) := by have := h.ms; omega
              have hb1 : bs < w7.heap.size := by have := h.ms; omega
              have hb2 : ¬ (bs = Ms ∨ bs = Rr) := by have := h.ms; omega
              exact ⟨(hxq.cell (a := ⟨B, 0, none⟩) hB1 hB2).trans h.c0, (hxq.cell (a := ⟨B, 1, none⟩) hB1 hB2).trans h.c1, (hxq.cell (a := ⟨B, 2, none⟩) hB1 hB2).trans h.c2, (hxq.cell (a := ⟨B, 3, none⟩) hB1 hB2).trans h.c3, SetT.setCof h.set (hxq.block bs hb1 hb2), ⟨by have := h.ms; omega, h.ms.2⟩⟩
            have c0 := hFq.c0
            have c1 := hFq.c1
            have c2 := hFq.c2
            have c3 := hFq.c3
            have hSd : SetC wr d nd Sf := ⟨Dm, hrg.owns, fun x y hx hy => (HSD.out x y hx hy).1⟩
            have HRf := Lib.hid (runs_ref W H Z vL d nd Sf wr hW hH hSd)
            have HX8 := Lib.hid (HX7.out.transG (E := fun k => k = Ms) hxq (fun b h => h) (fun b hb h => by
              rcases h with h | h
              · exact h
              · omega))
            have HSq := Lib.hid hSq
            have hmw : Ms < wr.heap.size := by have := HF7.out.ms.1; omega
            clear hSq hFq hSd hleft hl0 hmem hrg hxq hin
            go_wp2_with fail
            refine HRf.out.mono ?_
            rintro e w8 ⟨⟨v8, rfl, hv8⟩, hb8⟩
            have hs8 := hb8.size
            have hS8 := HSq.out.of_block2 (hb8.block Ms hmw)
            have hx8 := HX8.out.thenBelow hb8 HX8.out.size
            obtain ⟨A8, c8, rfl, -⟩ := hv8
            obtain ⟨i0, hi, hz0, hz1, hz2⟩ := info_parts infoRowP
            have hown9 := (World.ownsRow_nil w8 (w5.heap.size) 35 1).alloc (.cells #[.slice A8 (if (refR Sf W.toNat H.toNat).length ≤ 8192 then refR Sf W.toNat H.toNat else []).length c8] 35)
            have hx8s := hx8.size
            have HX9 := Lib.hid hx8
            have HS9 := Lib.hid hS8
            have hm8 : Ms < w8.heap.size := by omega
            clear hb8 hS8 hx8 HRf HX8 HSq c0 c1 c2 c3
            go_wp2_with (at_builtin; go_loud (refine wpList_append_lies _ rfl _ _ _ rfl w5.heap.size 35 i0 _ 1 24 Tryd.underlying70 hi hz0 hz1 hz2 rfl (by omega) (.slice none 0 0) 0 [] rfl hown9 ⟨w8.heap.size, 0, none⟩ 1 1 [_] rfl rfl (newsLit (cs := #[_]) (by simp)) (by simp [Value.oneCell']) (by omega) (by unfold maxLen; omega) (by omega) (by simp; omega) (w8.heap.size + 1) (by simp) ?_); intro gg cap9 w9 hown10 hgrow hat hlt9)
            have hal := (Below.refl w8.heap.size w8).alloc (Nat.le_refl _) (.cells #[.slice A8 (if (refR Sf W.toNat H.toNat).length ≤ 8192 then refR Sf W.toNat H.toNat else []).length c8] 35)
            have hS9 := (HS9.out.of_block2 (hal.block Ms hm8)).kept hgrow (by simp [Value.ownBlock])
            have hx9 := (HX9.out.thenBelow hal hx8s).grown hgrow (fun r e => by simp [Value.ownBlock] at e)
            go_roundw
            case rel => exact ⟨j + 1, by omega, by go_num, .inr ⟨by omega, ⟨_, _, rfl⟩, _, hS9⟩, hx9⟩
            case measure => simp [intOf]; omega
          · intro x y u w8 cnt1 hx hy hlx hrg1 hlt1 hg1 hs1 hen
            have hleft1 := hleft.step hx hy
            have hhas : Maps.has Dm (cellK x y) = true := by
              have h := hleft x y hx hy
              rw [hlx] at h
              have h := h.symm
              rw [Bool.and_eq_true] at h
              exact h.1
            have hmsR : Ms < Rr := by omega
            have hal := (Below.refl w8.heap.size w8).alloc (Nat.le_refl _) (.cells #[.int .i64 x, .int .i64 y] 77)
            have hS8 := (hSq.kept hg1 (by simp; omega)).of_block2 (hal.block Ms (by have := hSq.lt; omega))
            have hrg8 := hrg1.alloc (.cells #[.int .i64 x, .int .i64 y] 77)
            have hxq8 := (hxq.grown hg1 (fun r e => by cases e; exact .inl (.inr rfl))).thenBelow hal (by omega)
            have HM0 := Lib.hid hrg.left_eq
            have HMem := Lib.hid hmem
            have hmx : m7 < maxLen := by unfold maxLen; omega
            have HL1 := Lib.hid hleft1
            have HS8 := Lib.hid hS8
            have HXq := Lib.hid hxq8
            have HRg := Lib.hid hrg8
            clear hmem hrg hrg1 hrg8 hxq hxq8 hSq hleft hleft1 hg1 hal
            go_wp2_with (at_mapUpdate; go_loud (refine wpList_update_setT _ rfl _ _ _ 81 rfl setT Ms m7 _ rfl HS8.out hmx x y rfl rfl hx hy ?_); intro w9 hS9 hg9)
            have hrg9 := HRg.out.kept hg9 (by simp; omega) (by simp; omega)
            go_frame
            go_roundw
            case rel =>
              refine ⟨Lq ++ [(x, y)], _, cnt1, m7 + 1, hrg9, HL1.out, ?_, by simp; omega, hS9.ext (fun p q => by rw [← inC_snoc]), by simp; omega, HXq.out.grown hg9 (fun r e => by cases e; exact .inl (.inl rfl))⟩
              intro c hc
              rcases List.mem_append.1 hc with h | h
              · exact HMem.out c h
              · rw [List.mem_singleton] at h
                subst h
                exact ⟨⟨hx, hy⟩, hhas⟩
            case measure => rw [hrg9.left_eq, HM0.out]; exact hlt1
      · have lk := hS1.setC.look (t := 81) setT jx jy
        rw [hpS] at lk
        have HS1 := Lib.hid hS1
        have HX := Lib.hid hx
        clear hS1 hx hF bb hp
        go_wp2_with fail
        go_roundw
        case rel => exact ⟨j + 1, by omega, by go_num, .inr ⟨by omega, ⟨A6, c6, rfl⟩, m6, HS1.out⟩, HX.out⟩
        case measure => simp [intOf]; omega
    · obtain rfl : j = n := by omega
      rcases hPr with ⟨hj0, -⟩ | ⟨hj0, ⟨A6, c6, rfl⟩, m6, hS1⟩
      · omega
      · have hjj : ((j : Int) < (j : Int)) = False := by simp
        have HB := Lib.hid bb
        clear hS1 hx hF bb
        go_wp2_with fail
        refine bodyPost_ret (v := .tuple #[.slice A6 1 c6, .int .i64 0]) (by simp [results, Tryd.results29, go_sem]) rfl ⟨⟨A6, c6, rfl⟩, by rw [hB]; exact HB.out⟩
end Go.Proofs.YtnbdnnbeiohmgaaDoor
