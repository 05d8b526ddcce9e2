/- CheckTrack. -/
import Derived.Test.YtnbdnnbeiohmgaaDoorTkLegs
namespace Go.Proofs.YtnbdnnbeiohmgaaDoor
open Go.RowKit Go.Shelf
open Go.Proofs.Rings (Leg sg)
attribute [local go_sem] Oper.semAt_some

theorem cell_new_l (W : World) (v : Value) (t : TypeId) : (W.alloc (.cells #[v] t)).cell? ⟨W.heap.size, 0, none⟩ = some v ∧ (W.alloc (.cells #[v] t)).frozen? ⟨W.heap.size, 0, none⟩ = false := by
  have h := World.alloc_heap_new W (.cells #[v] t)
  exact ⟨by simp only [World.cell?, h]; rfl, by simp only [World.frozen?, h]; rfl⟩
theorem cell_alloc_l {W : World} {a : Addr} {v : Value} (o : Obj) (h : W.cell? a = some v) : (W.alloc o).cell? a = some v := cell_kept h (World.grownBy_alloc W o none) (fun r e => by cases e)
theorem frozen_alloc_l {W : World} {a : Addr} {v : Value} (o : Obj) (h : W.cell? a = some v) (hf : W.frozen? a = false) : (W.alloc o).frozen? a = false := (frozen_kept h (World.grownBy_alloc W o none) (fun r e => by cases e)).trans hf
theorem ownFrom_size {β : Type} (B n : Nat) : OwnFrom B (fun (_ : β) W => n ≤ W.heap.size) := fun _ _ _ _ hs hg _ => Nat.le_trans hs hg.size

def checkB (l : List (Int × Int)) : Bool := withinB l.length 2 1024 && l.all okS && (legsW l).all fun x => x.far != 0

/-- what CheckTrack answers -/
def checkV (l : List (Int × Int)) : Int := if checkB l then 0 else 2
theorem checkV_false {l : List (Int × Int)} (h : checkB l = false) : checkV l = 2 := by simp [checkV, h]
theorem checkV_true {l : List (Int × Int)} (h : checkB l = true) : checkV l = 0 := by simp [checkV, h]

theorem legsW_upto (l : List (Int × Int)) (m : Nat) (h : l.length = m + 1) : legsW l = uptoL (fun i => l.getD i default) m := by
  apply List.ext_getElem?
  intro i
  by_cases hi : i < m
  · have e := legsW_get l i (l.getD i default) (l.getD (i + 1) default) (by simp [List.getD, show i < l.length by omega]) (by simp [List.getD, show i + 1 < l.length by omega])
    rw [e]
    simp [uptoL, hi]
  · rw [List.getElem?_eq_none (by rw [legsW_length]; omega), List.getElem?_eq_none (by rw [uptoL_length]; omega)]

set_option maxRecDepth 100000 in
set_option maxHeartbeats 2000000 in
theorem check_tk (v : Value) (l : List (Int × Int)) (w : World) (h : Spots w v l) :
    Calls Tryd.prog 9 #[v] w fun e w' => e = .returned (.int .i64 (checkV l)) ∧ Below w.heap.size w w' := by
  refine (callsIn_wide (n := 5)).1 ?_
  have hval := fun (w' : World) (hb : Below w.heap.size w w') => valid_tk v l w' (h.below hb)
  obtain ⟨A, c, rfl, h1, h2, h3⟩ := h
  unfold maxLen at h2
  have HV := Lib.hid hval
  clear hval
  cases hw : withinB l.length 2 1024 with
  | false =>
    have hfin : checkB l = false := by simp [checkB, hw]
    have HF := Lib.hid hfin
    have HW := Lib.hid hw
    clear hfin hw h3
    refine callsIn_of_wp_marks Tryd.func9 rfl trivial ?_ rfl
    simp only [Tryd.ntmps9, List.size_toArray, List.length_cons, List.length_nil, Nat.reduceAdd, Nat.reduceSub, Array.replicate_succ, Array.replicate_zero, List.push_toArray, List.append_toArray, List.nil_append, List.cons_append]
    refine wpIn_wide.2 ?_
    go_wp2_with fail
    refine (within_tk _ _ _ _).mono ?_
    rintro e w' ⟨rfl, rfl⟩
    rw [HW.out]
    go_wp2_with fail
    refine ⟨.int .i64 2, by simp [results, Tryd.results9, go_sem], ?_, ?_⟩
    · rw [checkV_false HF.out]
    · exact (Below.refl _ _).alloc (Nat.le_refl _) _
  | true =>
    have hb1 : (2 : Int) ≤ l.length ∧ (l.length : Int) ≤ 1024 := by simpa [withinB] using hw
    obtain ⟨m, hm, hm1, hm2⟩ : ∃ m, l.length = m + 1 ∧ 1 ≤ m ∧ m ≤ 1023 := ⟨l.length - 1, by omega, by omega, by omega⟩
    have hup := legsW_upto l m hm
    have hlm : ∀ k, k ≤ m → k < l.length := fun k hk => by omega
    have HM := Lib.hid hm
    have HLM := Lib.hid hlm
    clear hm hlm
    cases hok : l.all okS with
    | false =>
      have hfin : checkB l = false := by simp [checkB, hok]
      have HF := Lib.hid hfin
      have HW := Lib.hid hw
      have HO := Lib.hid hok
      clear hfin hw h3 hup hok
      refine callsIn_of_wp_marks Tryd.func9 rfl trivial ?_ rfl
      simp only [Tryd.ntmps9, List.size_toArray, List.length_cons, List.length_nil, Nat.reduceAdd, Nat.reduceSub, Array.replicate_succ, Array.replicate_zero, List.push_toArray, List.append_toArray, List.nil_append, List.cons_append]
      refine wpIn_wide.2 ?_
      go_wp2_with fail
      refine (within_tk _ _ _ _).mono ?_
      rintro e w' ⟨rfl, rfl⟩
      rw [HW.out]
      go_wp2_with fail
      refine (HV.out _ ((Below.refl _ _).alloc (Nat.le_refl _) _)).mono ?_
      rintro e w1 ⟨rfl, hb⟩
      rw [HO.out]
      have hc0 := hb.cell (p := ⟨w.heap.size, 0, none⟩) (by simp)
      have hf0 := hb.frozen (p := ⟨w.heap.size, 0, none⟩) (by simp)
      have hz := hb.size
      simp [go_sem] at hc0 hf0 hz
      have hbb : Below w.heap.size w w1 := ((Below.refl w.heap.size w).alloc (Nat.le_refl _) _).trans (hb.mono (by simp))
      clear hb
      go_wp2_with fail
      refine ⟨.int .i64 2, by simp [results, Tryd.results9, go_sem, hc0], ?_, ?_⟩
      · rw [checkV_false HF.out]
      · exact hbb.setCell (p := ⟨w.heap.size, 0, none⟩) (Nat.le_refl _) _
    | true =>
      obtain ⟨b, off, rfl, hbl, hc⟩ := h3 (by omega)
      have hcells : ∀ k, k ≤ m → w.cell? ⟨b, off + k * 2, none⟩ = some (.int .i64 (l.getD k default).1) ∧ w.cell? ⟨b, off + k * 2 + 1, none⟩ = some (.int .i64 (l.getD k default).2) := fun k hk =>
        hc k _ (by simp [List.getD, HLM.out k hk])
      have HC := Lib.hid hcells
      have HW := Lib.hid hw
      have HO := Lib.hid hok
      have HU := Lib.hid hup
      clear hw h3 hup hok hc hcells
      refine callsIn_of_wp_marks Tryd.func9 rfl trivial ?_ rfl
      simp only [Tryd.ntmps9, List.size_toArray, List.length_cons, List.length_nil, Nat.reduceAdd, Nat.reduceSub, Array.replicate_succ, Array.replicate_zero, List.push_toArray, List.append_toArray, List.nil_append, List.cons_append]
      refine wpIn_wide.2 ?_
      go_wp2_with fail
      refine (within_tk _ _ _ _).mono ?_
      rintro e w' ⟨rfl, rfl⟩
      rw [HW.out]
      go_wp2_with fail
      refine (HV.out _ ((Below.refl _ _).alloc (Nat.le_refl _) _)).mono ?_
      rintro e w1 ⟨rfl, hb⟩
      rw [HO.out]
      have hc0 := hb.cell (p := ⟨w.heap.size, 0, none⟩) (by simp)
      have hf0 := hb.frozen (p := ⟨w.heap.size, 0, none⟩) (by simp)
      have hz := hb.size
      simp [go_sem] at hc0 hf0 hz
      have hbb : Below w.heap.size w w1 := ((Below.refl w.heap.size w).alloc (Nat.le_refl _) _).trans (hb.mono (by simp))
      clear hb
      go_wp2_with fail
      refine (legs_tk _ _ _ _).mono ?_
      rintro e w2 ⟨rfl, rfl⟩
      go_wp2_with fail
      refine (wpIn_wide (n := 5)).1 ?_
      rw [HM.out]
      obtain ⟨W0, hW0⟩ : ∃ W0, w1.alloc (.cells #[.slice (some ⟨b, off, none⟩) (m + 1) c] 27) = W0 := ⟨_, rfl⟩
      rw [hW0]
      have pW : W0.heap.size = w1.heap.size + 1 ∧ W0.cell? ⟨w1.heap.size, 0, none⟩ = some (.slice (some ⟨b, off, none⟩) (m + 1) c) ∧ W0.cell? ⟨w.heap.size, 0, none⟩ = some (.int .i64 0) ∧
          W0.frozen? ⟨w.heap.size, 0, none⟩ = false ∧ Below w.heap.size w W0 := by
        subst hW0
        refine ⟨by simp, (cell_new_l w1 _ _).1, (World.cell?_alloc_lt w1 _ ⟨w.heap.size, 0, none⟩ (by simp; omega)).trans hc0, ?_, hbb.alloc (by omega) _⟩
        exact (frozen_alloc_l _ hc0 hf0)
      obtain ⟨q1, q2, q3, q4, q5⟩ := pW
      clear hW0 hc0 hf0 hbb
      refine wpIn_rangeFunc_ownH rfl (by omega) (gf := 42) (lb := #[.pointer (some ⟨w1.heap.size, 0, none⟩)]) rfl trivial (enters_of Tryd.func42 (by kernel_rfl) rfl)
        (legs_stops 4 (by omega) w1.heap.size b off m c (fun q => q = b ∨ q = w1.heap.size) (.inl rfl) (.inr rfl) (fun i => l.getD i default) hm1 (by have := HM.out; omega) (by omega) W0 (fun q hq => by rcases hq with rfl | rfl <;> omega) q2
          (fun k hk => ⟨(q5.cell (p := ⟨b, off + k * 2, none⟩) hbl).trans (HC.out k hk).1, (q5.cell (p := ⟨b, off + k * 2 + 1, none⟩) hbl).trans (HC.out k hk).2⟩))
        (fun h k => KeepB.trans h k) (fun W l' o o' hl _ _ _ => KeepB.putObj (n := W0.heap.size) (fun q hq => by rcases hq with rfl | rfl <;> omega) W l' o' hl) (Below.refl _ _) (fun _ => rfl)
        (fun pre W => ((∀ x ∈ pre, x.far ≠ 0) ∧ W.cell? ⟨w.heap.size, 0, none⟩ = some (.int .i64 0) ∧ W.frozen? ⟨w.heap.size, 0, none⟩ = false) ∧ Below w.heap.size w W ∧ W0.heap.size ≤ W.heap.size)
        (fun c pre W => ((c = .ret ∧ ∃ x ∈ pre, x.far = 0) ∧ W.cell? ⟨w.heap.size, 0, none⟩ = some (.int .i64 2)) ∧ Below w.heap.size w W)
        (OwnFrom.and (Own.from (fun s A B row hs hg hr => ⟨hs.1, cell_kept hs.2.1 hg hr, (frozen_kept hs.2.1 hg hr).trans hs.2.2⟩) _) (OwnFrom.and (ownFrom_below (Nat.le_refl _) (by omega)) (ownFrom_size _ _)))
        (fun c => OwnFrom.and (Own.from (fun s A B row hs hg hr => ⟨hs.1, cell_kept hs.2 hg hr⟩) _) (ownFrom_below (Nat.le_refl _) (by omega)))
        ⟨⟨by simp, q3, q4⟩, q5, Nat.le_refl _⟩
        (fun x a' W => ∃ Bx, W.cell? ⟨Bx, 4, none⟩ = some (.int .i64 x.far) ∧ a' = { tmps := #[.slice (some ⟨b, off, none⟩) (m + 1) c, undef, .pointer (some ⟨w.heap.size, 0, none⟩), .pointer (some ⟨Bx, 0, none⟩), .slice (some ⟨b, off, none⟩) (m + 1) c, .int .i64 ↑(m + 1), .bool true, .bool false, .bool false, .slice (some ⟨b, off, none⟩) (m + 1) c, .bool true, .bool false, .bool false, .slice (some ⟨b, off, none⟩) (m + 1) c, .func (.func 42) #[] #[.pointer (some ⟨w1.heap.size, 0, none⟩)], encLeg x, undef, undef, undef], defers := [] })
        (fun x a' => Own.from (fun s A B row hs hg hr => by obtain ⟨Bx, h, e⟩ := hs; exact ⟨Bx, cell_kept h hg hr, e⟩) _)
        ?assign ?body ?done ?stop
      case assign =>
        rintro l' pre x W K ⟨⟨hp, hcr, hfr⟩, hB, hS0⟩ hK
        obtain ⟨fx, fy, wx, wy, far⟩ := x
        dsimp only [encLeg]
        have hK' := hK { tmps := #[.slice (some ⟨b, off, none⟩) (m + 1) c, undef, .pointer (some ⟨w.heap.size, 0, none⟩), .pointer (some ⟨W.heap.size, 0, none⟩), .slice (some ⟨b, off, none⟩) (m + 1) c, .int .i64 ↑(m + 1), .bool true, .bool false, .bool false, .slice (some ⟨b, off, none⟩) (m + 1) c, .bool true, .bool false, .bool false, .slice (some ⟨b, off, none⟩) (m + 1) c, .func (.func 42) #[] #[.pointer (some ⟨w1.heap.size, 0, none⟩)], .agg #[.int .i64 fx, .int .i64 fy, .int .i64 wx, .int .i64 wy, .int .i64 far], undef, undef, undef], defers := [] }
          (W.alloc (.cells #[.int .i64 fx, .int .i64 fy, .int .i64 wx, .int .i64 wy, .int .i64 far] 68)) ((KeepsOthers.alloc _ _).from _) (KeepB.below ((Below.refl _ _).alloc (Nat.le_refl _) _) (fun q hq => by rcases hq with rfl | rfl <;> omega))
          ⟨⟨hp, cell_alloc_l _ hcr, frozen_alloc_l _ hcr hfr⟩, hB.alloc hB.size _, by simp; omega⟩ ⟨W.heap.size, by simp [go_sem], rfl⟩
        have HK := Lib.hid hK'
        clear hK hK'
        gi_wp2
        exact HK.out
      case body =>
        rintro l' pre x a' W hl ⟨r, hr⟩ ⟨⟨hp, hcr, hfr⟩, hB, hS0⟩ ⟨Bx, hx, rfl⟩ hlt
        by_cases hz0 : x.far = 0
        · rw [hz0] at hx
          have HZ := Lib.hid hz0
          clear hz0
          gi_wp2
          exact ⟨(KeepsOthers.setCell _ _ _).from _, ⟨⟨rfl, x, List.mem_append.2 (.inr (by simp)), HZ.out⟩, World.cell?_setCell_same' _ _ _ (by rw [hcr]; rfl)⟩, hB.setCell (p := ⟨w.heap.size, 0, none⟩) (Nat.le_refl _) _⟩
        · have t0 : (x.far == 0) = false := by simpa using hz0
          have HZ := Lib.hid hz0
          clear hz0
          gi_wp2
          exact ⟨KeepsFrom.refl _ _, KeepB.refl _ _, ⟨fun y hy => (List.mem_append.1 hy).elim (hp y) (fun e => by simp at e; subst e; exact HZ.out), hcr, hfr⟩, hB, hS0⟩
      case done =>
        rintro D ys W hD rfl ⟨⟨hne, hcr, hfr⟩, hB, hS0⟩ hK
        have hfin : checkB l = true := by
          simp only [checkB, HW.out, HO.out, HU.out, Bool.true_and, List.all_eq_true]
          exact fun x hx => by simpa using hne x hx
        have HF := Lib.hid hfin
        clear hfin hne
        go_wp2_with fail
        have hK' := (KeepsOthers.setCell W ⟨w.heap.size, 0, none⟩ (.int .i64 0)).same D _ hK rfl
        refine ⟨by simp, .inl ⟨_, _, rfl, run_takeDeferred hK', ?_⟩⟩
        have hc5 := cell_kept (World.cell?_setCell_same' W ⟨w.heap.size, 0, none⟩ (.int .i64 0) (by rw [hcr]; rfl)) (grownBy_putObj' _ D (.deferred none)) (fun r e => by cases e; exact ⟨_, hK', rfl⟩)
        refine ⟨.int .i64 0, by simp [results, Tryd.results9, go_sem, hc5], by rw [checkV_true HF.out], (hB.setCell (p := ⟨w.heap.size, 0, none⟩) (Nat.le_refl _) _).trans (belowK_b (w := w) (Nat.le_refl _) _ D _ _ (by omega) hK' rfl rfl)⟩
      case stop =>
        rintro D c' pre W hD ⟨k, hk, rfl⟩ ⟨⟨⟨rfl, x, hx, hz0⟩, hcr⟩, hB⟩ hK
        have hfin : checkB l = false := by
          have hmem : x ∈ legsW l := by
            rw [HU.out]
            simp only [uptoL, List.mem_map, List.mem_range] at hx ⊢
            obtain ⟨i, hi, e⟩ := hx
            exact ⟨i, by omega, e⟩
          have : (legsW l).all (fun x => x.far != 0) = false := by
            rw [List.all_eq_false]
            exact ⟨x, hmem, by simp [hz0]⟩
          simp only [checkB, this, Bool.and_false]
        have HF := Lib.hid hfin
        clear hfin hx hz0
        refine wpIn_wide.2 ?_
        go_wp2_with fail
        refine ⟨by simp, .inl ⟨_, _, rfl, run_takeDeferred hK, ?_⟩⟩
        have hc5 := cell_kept hcr (grownBy_putObj' _ D (.deferred none)) (fun r e => by cases e; exact ⟨_, hK, rfl⟩)
        refine ⟨.int .i64 2, by simp [results, Tryd.results9, go_sem, hc5], by rw [checkV_false HF.out], hB.trans (belowK_b (w := w) (Nat.le_refl _) W D _ _ (by omega) hK rfl rfl)⟩
end Go.Proofs.YtnbdnnbeiohmgaaDoor
