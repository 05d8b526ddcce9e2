/- grid's table.add. -/
import Derived.Test.YtnbdnnbeiohmgaaGrTab
import Derived.Deep.RegionLaw
namespace Go.Proofs.Ytnbdnnbeiohmgaa
open Go.RowKit Go.Shelf

theorem infoSpan : (Try.prog.info? 176).map (fun i => (i.zero, i.size, i.bytes)) = some (some (.agg #[.int .i64 0, .int .i64 0]), 2, 16) := by kernel_rfl

def addOK (W H y a t : Int) : Bool := inB y 0 (H - 1) && decide (max 0 a < min t W)
/-- the table behind add -/
def addF (W H y a t : Int) (f : Nat → List (Int × Int)) : Nat → List (Int × Int) := if addOK W H y a t then upd f y.toNat (f y.toNat ++ [(max 0 a, min t W)]) else f
theorem addF_no {W H y a t : Int} {f : Nat → List (Int × Int)} (h : addOK W H y a t = false) : addF W H y a t f = f := by simp [addF, h]
theorem addF_yes {W H y a t : Int} {f : Nat → List (Int × Int)} (h : addOK W H y a t = true) : addF W H y a t f = upd f y.toNat (f y.toNat ++ [(max 0 a, min t W)]) := by simp [addF, h]

/-- what is no part of the table stays -/
def Untouched (w w' : World) (b : Nat) (vs vs' : Nat → Value) : Prop :=
  ∀ j, j < w.heap.size → j ≠ b → (∀ i, i < 256 → (vs i).ownBlock ≠ some j) → w'.heap[j]? = w.heap[j]? ∧ ∀ i, i < 256 → (vs' i).ownBlock ≠ some j

set_option maxRecDepth 100000 in
set_option maxHeartbeats 4000000 in
theorem add_gr (W H S y a t : Int) (vL : Value) (b : Nat) (vs : Nat → Value) (f : Nat → List (Int × Int)) (w : World) (hW : 1 ≤ W ∧ W ≤ 256) (hH : 1 ≤ H ∧ H ≤ 256) (h : Tab w b vs f) (hf : ∀ i, i < 256 → (f i).length ≤ 1000000000) :
    Calls Try.prog 54 #[.pointer (some ⟨b, 0, none⟩), .agg #[.int .i64 W, .int .i64 H, .int .i64 S, vL], .int .i64 y, .int .i64 a, .int .i64 t] w fun e w' =>
      e = .returned (.tuple #[]) ∧ (∃ vs', Tab w' b vs' (addF W H y a t f) ∧ Untouched w w' b vs vs') ∧ Below b w w' := by
  have hbl := h.lt
  have b1 : Below b w (w.alloc (.cells #[.int .i64 W, .int .i64 H, .int .i64 S, vL] 24)) := (Below.refl b w).alloc (by omega) _
  have h1 : Tab (w.alloc (.cells #[.int .i64 W, .int .i64 H, .int .i64 S, vL] 24)) b vs f := h.below ((Below.refl _ w).alloc (Nat.le_refl _) _)
  have bw1 : Below w.heap.size w (w.alloc (.cells #[.int .i64 W, .int .i64 H, .int .i64 S, vL] 24)) := (Below.refl _ w).alloc (Nat.le_refl _) _
  have zw1 : w.heap.size ≤ (w.alloc (.cells #[.int .i64 W, .int .i64 H, .int .i64 S, vL] 24)).heap.size := by simp
  go_enter Try.func54, Try.ntmps54
  go_wp2_with fail
  have c0 : (w.alloc (.cells #[.int .i64 W, .int .i64 H, .int .i64 S, vL] 24)).cell? ⟨w.heap.size, 0, none⟩ = some (.int .i64 W) := by simp [go_sem]
  have c1 : (w.alloc (.cells #[.int .i64 W, .int .i64 H, .int .i64 S, vL] 24)).cell? ⟨w.heap.size, 1, none⟩ = some (.int .i64 H) := by simp [go_sem]
  have z1 : w.heap.size < (w.alloc (.cells #[.int .i64 W, .int .i64 H, .int .i64 S, vL] 24)).heap.size := by simp
  obtain ⟨w1, hw1⟩ : ∃ w1, w.alloc (.cells #[.int .i64 W, .int .i64 H, .int .i64 S, vL] 24) = w1 := ⟨_, rfl⟩
  rw [hw1] at b1 bw1 zw1 h1 c0 c1 z1 ⊢
  clear hw1 h
  obtain ⟨B, hB⟩ : ∃ B, w.heap.size = B := ⟨_, rfl⟩
  rw [hB] at c0 c1 z1 hbl ⊢
  clear hB
  go_quiet (fail)
  obtain ⟨w2, hw2⟩ : ∃ w2, w1.drewN nq = w2 := ⟨_, rfl⟩
  have hwb : Below w1.heap.size w1 w2 := by rw [← hw2]; exact belowDrewN (Below.refl _ _) _
  rw [hw2]
  clear hw2
  have b2 := b1.trans (hwb.mono (by have := h1.lt; omega))
  have bw := bw1.trans (hwb.mono (by omega))
  have h2 := h1.below hwb
  have c0 := (hwb.cell (p := ⟨B, 0, none⟩) z1).trans c0
  have c1 := (hwb.cell (p := ⟨B, 1, none⟩) z1).trans c1
  have z1 := Nat.lt_of_lt_of_le z1 hwb.size
  clear hwb b1 h1
  have eH : wrap64 (H - 1) = H - 1 := wrapId _ (by omega) (by omega)
  obtain ⟨A, hA⟩ : ∃ A, max 0 a = A := ⟨_, rfl⟩
  obtain ⟨T, hT⟩ : ∃ T, min t W = T := ⟨_, rfl⟩
  rw [hA, hT]
  go_wp2_with fail
  refine (within_gr _ _ _ _).mono ?_
  rintro e w' ⟨rfl, rfl⟩
  cases k1 : inB y 0 (H - 1) with
  | false =>
    have hno := Lib.hid (addF_no (f := f) (show addOK W H y a t = false by simp [addOK, k1]))
    go_wp2_with fail
    go_end0
    exact ⟨rfl, ⟨vs, by rw [hno.out]; exact h2, fun j hj _ hv => ⟨bw.block j hj, hv⟩⟩, b2⟩
  | true =>
    by_cases k2 : A < T
    · obtain ⟨n, rfl⟩ : ∃ n : Nat, y = n := ⟨y.toNat, by have := inB_iff k1; omega⟩
      have hn : n < 256 := by have := inB_iff k1; omega
      have hyes := Lib.hid (addF_yes (f := f) (show addOK W H n a t = true by simp [addOK, k1, hA, hT, k2]))
      rw [hA, hT, Int.toNat_natCast] at hyes
      have hc := h2.cell n hn
      have hfz := h2.fz n hn
      have hown := h2.own n hn
      have hlt := h2.lt
      have hfn := hf n hn
      obtain ⟨i0, hi, hz0, hz1, hz2⟩ := info_parts infoSpan
      have hn1 : (n : Int) < 256 := by omega
      have hn2 : (0 : Int) ≤ n := by omega
      obtain ⟨vn, hvn⟩ : ∃ v, vs n = v := ⟨_, rfl⟩
      rw [hvn] at hc hown
      have hne : some b ≠ vn.ownBlock := fun e => by have := (ownBlock_lt hown e.symm).1; omega
      go_wp2_with fail
      go_region_law (first | (refine step_append_lies _ (by rfl) _ _ _ (by rfl) (b + 1) 176 i0 _ 2 16 Try.underlying98 hi hz0 hz1 hz2 rfl (by omega) vn (f n).length (flatE encS (f n)) (by rfl) (hown.drew.alloc _) ⟨w2.heap.size, 0, none⟩ 1 1 [.int .i64 A, .int .i64 T] (by rfl) (by rfl) (World.news_of_block (cs := #[.int .i64 A, .int .i64 T]) (t := 176) (fr := (0, 0)) (heap_alloc_new w2.drew _)) (by simp [Value.oneCell']) (by omega) (by unfold maxLen; omega) (by omega) (by simp; omega) (w2.heap.size + 1) (by simp) ?_; intro g cap w6 hown6 hgrow6 hat6 hlt6; have hkc : w6.cell? ⟨b, n, none⟩ = some vn := (hgrow6.cell_far ⟨b, n, none⟩ (by simp; omega) hne).trans ((World.cell?_alloc_lt w2 _ ⟨b, n, none⟩ hlt).trans hc); have hkf : w6.frozen? ⟨b, n, none⟩ = false := (hgrow6.frozen_far ⟨b, n, none⟩ (by simp; omega) hne).trans ((frozenAllocLt w2 _ ⟨b, n, none⟩ hlt).trans hfz)))
      all_goals
        go_end0
        refine ⟨rfl, ?_, ?_⟩
        · rw [hyes.out]
          have hal : Tab (w2.alloc (.cells #[.int .i64 A, .int .i64 T] 176)) b vs f := h2.below ((Below.refl _ _).alloc (Nat.le_refl _) _)
          have hg' : (w2.alloc (.cells #[.int .i64 A, .int .i64 T] 176)).grownBy w6 (vs n).ownBlock := by rw [hvn]; exact ⟨hgrow6.os, hgrow6.tape, hgrow6.output, hgrow6.size, hgrow6.block⟩
          have hl1 : (f n ++ [(A, T)]).length = (f n).length + 1 := by simp
          have hput := hal.put (l := f n ++ [(A, T)]) (cap := cap) hn hg' (by rw [hl1, flatE_append]; exact hown6) (by
            rw [hvn]
            rcases hat6 with h | h
            · exact .inl h
            · exact .inr (by simp; omega))
          rw [hl1] at hput
          refine ⟨_, hput, fun j hj hjb hv => ⟨?_, fun i hi => ?_⟩⟩
          · rw [Below.heap_setCell _ _ _ _ hjb]
            have hjw : j < w2.heap.size := Nat.lt_of_lt_of_le hj bw.size
            have e1 := hgrow6.block j (by simp; omega) (fun e => hv n hn (by rw [hvn]; exact e.symm))
            exact (e1.trans (Below.heap_alloc w2.drew _ j hjw)).trans (bw.block j hj)
          · by_cases e : i = n
            · subst e
              rw [upd_same]
              simp only [Value.ownBlock, ne_eq, Option.some.injEq]
              intro hgj
              subst hgj
              rcases hat6 with h | h
              · exact hv i hi (by rw [hvn]; exact h)
              · have := bw.size; omega
            · rw [upd_other _ _ e]
              exact hv i hi
        · refine Below.setCell ?_ (by simp) _
          exact ((b2.alloc (by omega) _).grown ⟨hgrow6.os, hgrow6.tape, hgrow6.output, hgrow6.size, hgrow6.block⟩ (by simp; omega) (fun k hk => by have := (ownBlock_lt hown hk).1; omega))
    · have hno := Lib.hid (addF_no (f := f) (show addOK W H y a t = false by simp [addOK, k1, hA, hT, k2]))
      have k2' : T ≤ A := by omega
      go_wp2_with fail
      go_end0
      exact ⟨rfl, ⟨vs, by rw [hno.out]; exact h2, fun j hj _ hv => ⟨bw.block j hj, hv⟩⟩, b2⟩
end Go.Proofs.Ytnbdnnbeiohmgaa
