/- The iterator over the legs of a track. -/
import Derived.Test.YtnbdnnbeiohmgaaDoorTkValid
import Derived.RangeFuncNested
import Derived.RangeFuncBound
import Derived.RangeFuncCalls
import Derived.RangeFuncLeaves
import Derived.Shelf.Abstract
import Derived.OwnWalkIn
import Derived.TacticsInMore
import Derived.LoopNIn
import Derived.LoopIn
import Derived.StillTailTactics
import Derived.Deep.RegionHeld3
namespace Go.Proofs.YtnbdnnbeiohmgaaDoor
open Go.RowKit Go.Shelf
open Go.Proofs.Rings (Leg sg)
attribute [local go_sem] Oper.semAt_some

def encLeg (l : Leg) : Value := .agg #[.int .i64 l.fx, .int .i64 l.fy, .int .i64 l.wx, .int .i64 l.wy, .int .i64 l.far]

theorem legs_tk (A : Option Addr) (m c : Nat) (w : World) : Calls Tryd.prog 25 #[.slice A m c] w fun e w' =>
    e = .returned (.func (.func 42) #[] #[.pointer (some ⟨w.heap.size, 0, none⟩)]) ∧ w' = w.alloc (.cells #[.slice A m c] 27) := by
  go_enter Tryd.func25, Tryd.ntmps25
  go_wp2
  go_ret
  exact ⟨rfl, rfl⟩

/-- a region whose head only reads and calls quietly, and whose end writes: the world behind the draw under a name of its own -/
theorem wp_still_tail_at {P : Program} {id : Nat} {Q : Exit → Act → World → Prop} {a : Act} {w : World} {l : List Oper} (n : Nat) (hm : P.follows .mixedOrders = true) (hB : Region.lexTailB .any l.toArray n = true)
    (h : ∀ w' : World, w' = w.drew → wpStill P l.toArray w' (fun a' => wpList P l.toArray Q (l.drop n) a' w') (l.take n) a) : (Code.region id l.toArray true).wp P Q a w :=
  wp_region_still_tail n hm hB (h _ rfl)

/-- all ways through a region come to one end -/
theorem wp_one {P : Program} {c : Code} {Q : Exit → Act → World → Prop} {a : Act} {w : World} {A : Act} {W : World} (h1 : c.wp P (fun e a' w' => e = Exit.normal ∧ a' = A ∧ w' = W) a w) (h2 : Q .normal A W) : c.wp P Q a w :=
  Code.wp_mono (fun _ _ _ ⟨he, ha, hw⟩ => by subst he; subst ha; subst hw; exact h2) h1

/-- nothing has been let go, and the cells of the blocks that S names read as they did -/
def KeepB (S : Nat → Prop) (A B : World) : Prop := A.heap.size ≤ B.heap.size ∧ ∀ p : Addr, S p.block → B.cell? p = A.cell? p
theorem KeepB.refl (S : Nat → Prop) (A : World) : KeepB S A A := ⟨Nat.le_refl _, fun _ _ => rfl⟩
theorem KeepB.trans {S : Nat → Prop} {A B C : World} (h : KeepB S A B) (k : KeepB S B C) : KeepB S A C := ⟨Nat.le_trans h.1 k.1, fun p hp => (k.2 p hp).trans (h.2 p hp)⟩
theorem KeepB.below {S : Nat → Prop} {n : Nat} {A B : World} (h : Below n A B) (hS : ∀ q, S q → q < n) : KeepB S A B := ⟨h.size, fun _ hp => h.cell (hS _ hp)⟩
theorem KeepB.cell {S : Nat → Prop} {A B : World} (h : KeepB S A B) {p : Addr} (hp : S p.block) : B.cell? p = A.cell? p := h.2 p hp
theorem KeepB.setCell {S : Nat → Prop} {A B : World} (h : KeepB S A B) {p : Addr} (hp : ¬ S p.block) (u : Value) : KeepB S A (B.setCell p u) :=
  ⟨by simpa [World.setCell] using h.1, fun q hq => (World.cell?_setCell_other B p q u (fun e => by subst e; exact hp hq)).trans (h.2 q hq)⟩
theorem KeepB.alloc {S : Nat → Prop} {A B : World} (h : KeepB S A B) (hS : ∀ q, S q → q < B.heap.size) (o : Obj) : KeepB S A (B.alloc o) :=
  h.trans (KeepB.below ((Below.refl _ _).alloc (Nat.le_refl _) o) hS)
theorem KeepB.drew {S : Nat → Prop} {A B : World} (h : KeepB S A B) : KeepB S A B.drew := h

theorem KeepB.putObj {S : Nat → Prop} {n : Nat} (hS : ∀ q, S q → q < n) (W : World) (l : Nat) (o' : Obj) (hl : n ≤ l) : KeepB S W (W.putObj l o') :=
  ⟨by simp, fun p hp => World.cell?_of_block (World.putObj_heap_other (fun e => by have := hS _ hp; omega))⟩

def uptoL (f : Nat → Int × Int) (k : Nat) : List Leg := (List.range k).map fun i => legW (f i) (f (i + 1))
theorem uptoL_succ (f : Nat → Int × Int) (k : Nat) : uptoL f (k + 1) = uptoL f k ++ [legW (f k) (f (k + 1))] := by simp [uptoL, List.range_succ]
theorem uptoL_length (f : Nat → Int × Int) (k : Nat) : (uptoL f k).length = k := by simp [uptoL]

set_option maxRecDepth 100000 in
set_option maxHeartbeats 2000000 in
theorem legs1_core (n : Nat) (hn : 1 ≤ n) (l Bs b off m c : Nat) (S : Nat → Prop) (hSb : S b) (hSB : S Bs) (f : Nat → Int × Int) (hm : 1 ≤ m) (hmc : m + 1 ≤ c) (hcm : c ≤ 9223372036854775807) (J Jx : List Leg → World → Prop) (W : World) (hSl : ∀ q, S q → q < W.heap.size)
    (hJ : AbidesFrom W.heap.size J) (hJx : AbidesFrom W.heap.size Jx)
    (hY : ∀ pre x W1, J pre W1 → pre.length < m → YieldAt Fence.wide (n - 1) Tryd.prog l #[encLeg x] W1 fun e W' =>
      (e = .returned (.bool true) ∧ J (pre ++ [x]) W' ∧ KeepB S W1 W') ∨ (e = .returned (.bool false) ∧ Jx (pre ++ [x]) W'))
    (hBs : W.cell? ⟨Bs, 0, none⟩ = some (.slice (some ⟨b, off, none⟩) (m + 1) c))
    (hc : ∀ k, k ≤ m → W.cell? ⟨b, off + k * 2, none⟩ = some (.int .i64 (f k).1) ∧ W.cell? ⟨b, off + k * 2 + 1, none⟩ = some (.int .i64 (f k).2)) (h0 : J [] W) :
    CallsIn Fence.wide n Tryd.prog 42 #[.func (.yield l) #[] #[], .pointer (some ⟨Bs, 0, none⟩)] W fun e W' => (∃ v, e = .returned v) ∧
      ((∃ ys, ys = uptoL f m ∧ J ys W') ∨ (∃ pre, (∃ k, k ≤ m ∧ pre = uptoL f k) ∧ Jx pre W')) := by
  refine callsIn_of_wp Tryd.func42 rfl trivial ?_ rfl
  simp only [Tryd.ntmps42, List.size_toArray, List.length_cons, List.length_nil, Nat.reduceAdd, Nat.reduceSub, Array.replicate_succ, Array.replicate_zero, List.push_toArray, List.append_toArray, List.nil_append, List.cons_append]
  have hm0 : (0 : Int) < (m : Int) := by omega
  gi_wp2
  gi_loopw [11] (fun i wr => ∃ k : Nat, k ≤ m ∧ i = .int .i64 k ∧ KeepB S W wr ∧ J (uptoL f k) wr ∧ W.heap.size ≤ wr.heap.size)
    (fun i _ => m - (intOf i).toNat)
  case atStart => exact ⟨0, Nat.zero_le _, rfl, KeepB.refl _ _, h0, Nat.le_refl _⟩
  case round =>
    obtain ⟨k, hk, rfl, hbw, hJs, hsz⟩ := hrel
    have hbox := (hbw.cell (p := ⟨Bs, 0, none⟩) hSB).trans hBs
    by_cases hlt : k < m
    · obtain ⟨x0, y0, hf0⟩ : ∃ x y, f k = (x, y) := ⟨_, _, rfl⟩
      obtain ⟨x1, y1, hf1⟩ : ∃ x y, f (k + 1) = (x, y) := ⟨_, _, rfl⟩
      have c0 := (hbw.cell (p := ⟨b, off + k * 2, none⟩) hSb).trans (hc k hk).1
      have c1 := (hbw.cell (p := ⟨b, off + k * 2 + 1, none⟩) hSb).trans (hc k hk).2
      have c2 := (hbw.cell (p := ⟨b, off + (k + 1) * 2, none⟩) hSb).trans (hc (k + 1) hlt).1
      have c3 := (hbw.cell (p := ⟨b, off + (k + 1) * 2 + 1, none⟩) hSb).trans (hc (k + 1) hlt).2
      rw [hf0] at c0 c1
      rw [hf1] at c2 c3
      dsimp only at c0 c1 c2 c3
      have HF0 := Lib.hid hf0
      have HF1 := Lib.hid hf1
      clear hf0 hf1 hc
      have hk1 : (k : Int) + 1 < (m : Int) + 1 := by omega
      have hk2 : (k : Int) < (m : Int) + 1 := by omega
      have e1 : IntKind.i64.wrap ((k : Int) + 1) = (k : Int) + 1 := IntWalk.i64_in _ (by omega)
      have e2 : ((k : Int) + 1).toNat = k + 1 := by omega
      gi_wp2
      refine wpIn_wide.2 ?_
      go_quiet (fail)
      clear e1 e2
      obtain ⟨u, hu⟩ : ∃ u, wrap64 (x1 - x0) = u := ⟨_, rfl⟩
      obtain ⟨v, hv⟩ : ∃ v, wrap64 (y1 - y0) = v := ⟨_, rfl⟩
      rw [hu, hv]
      have HU := Lib.hid hu
      have HV := Lib.hid hv
      clear hu hv
      obtain ⟨fr, hfr⟩ : ∃ fr, (if u ≠ 0 ∧ v ≠ 0 ∧ szW u ≠ szW v then 0 else max (szW u) (szW v)) = fr := ⟨_, rfl⟩
      have HFR := Lib.hid hfr
      clear hfr
      have hlen : (uptoL f k).length < m := by rw [uptoL_length]; exact hlt
      have hleg : legW (f k) (f (k + 1)) = ⟨x0, y0, sg u, sg v, fr⟩ := by
        rw [HF0.out, HF1.out]; simp only [legW, HU.out, HV.out, HFR.out]
      have hsigu : ∀ w, Calls Tryd.prog 43 #[.int .i64 u] w fun e w' => e = .returned (.int .i64 (sg u)) ∧ w' = w := fun w => (sign_tk u w).mono fun _ _ h => ⟨h.1, h.2.symm⟩
      have hsigv : ∀ w, Calls Tryd.prog 43 #[.int .i64 v] w fun e w' => e = .returned (.int .i64 (sg v)) ∧ w' = w := fun w => (sign_tk v w).mono fun _ _ h => ⟨h.1, h.2.symm⟩
      have hszu : ∀ w, Calls Tryd.prog 41 #[.int .i64 u] w fun e w' => e = .returned (.int .i64 (szW u)) ∧ w' = w := fun w => (size_tk u w).mono fun _ _ h => ⟨h.1, h.2.symm⟩
      have hszv : ∀ w, Calls Tryd.prog 41 #[.int .i64 v] w fun e w' => e = .returned (.int .i64 (szW v)) ∧ w' = w := fun w => (size_tk v w).mono fun _ _ h => ⟨h.1, h.2.symm⟩
      have HLEG := Lib.hid hleg
      have H1 := Lib.hid hsigu
      have H2 := Lib.hid hsigv
      have H3 := Lib.hid hszu
      have H4 := Lib.hid hszv
      clear hleg hsigu hsigv hszu hszv
      gi_wp2
      refine wpIn_wide.2 ?_
      have HMAX : Hid (max (szW u) (szW v) = if szW u < szW v then szW v else szW u) := by
        show max (szW u) (szW v) = _
        split <;> omega
      obtain ⟨w3, hw3⟩ : ∃ w3, wr.drewN nq = w3 := ⟨_, rfl⟩
      rw [hw3]
      have pst : (∀ p : Addr, w3.cell? p = wr.cell? p) ∧ KeepB S W w3 ∧ J (uptoL f k) w3 ∧ W.heap.size ≤ w3.heap.size := by
        subst hw3
        exact ⟨fun _ => rfl, hbw, hJ _ _ _ none hJs ⟨rfl, rfl, rfl, Nat.le_refl _, fun _ _ _ => rfl⟩ (fun r e => by cases e), hsz⟩
      obtain ⟨hc3, hb3, hJ3, hs3⟩ := pst
      replace hbox := (hc3 _).trans hbox
      replace c0 := (hc3 _).trans c0
      replace c1 := (hc3 _).trans c1
      clear hw3 c2 c3 hbw hJs hsz hc3
      have hbl : Bs < w3.heap.size := by have := hSl _ hSB; omega
      have hbl2 : b < w3.heap.size := by have := hSl _ hSb; omega
      apply wp_one
      · go_region_held3 (fun W' => W'.cell? ⟨Bs, 0, none⟩ = some (.slice (some ⟨b, off, none⟩) (m + 1) c) ∧ W'.cell? ⟨b, off + k * 2, none⟩ = some (.int .i64 x0) ∧ W'.cell? ⟨b, off + k * 2 + 1, none⟩ = some (.int .i64 y0))
        (first | exact ⟨hbox, c0, c1⟩ | exact ⟨(World.cell?_alloc_lt w3 _ ⟨Bs, 0, none⟩ hbl).trans hbox, (World.cell?_alloc_lt w3 _ ⟨b, off + k * 2, none⟩ hbl2).trans c0, (World.cell?_alloc_lt w3 _ ⟨b, off + k * 2 + 1, none⟩ hbl2).trans c1⟩)
        (first | (go_at_call 43; first | (refine (H1.out _).mono ?_; rintro e w' ⟨rfl, rfl⟩) | (refine (H2.out _).mono ?_; rintro e w' ⟨rfl, rfl⟩)) | (go_at_call 41; first | (refine (H3.out _).mono ?_; rintro e w' ⟨rfl, rfl⟩) | (refine (H4.out _).mono ?_; rintro e w' ⟨rfl, rfl⟩)))
        all_goals exact ⟨rfl, rfl, rfl⟩
      obtain ⟨F, hF⟩ : ∃ F, (if szW u < szW v then szW v else szW u) = F := ⟨_, rfl⟩
      rw [hF]
      rw [hF] at HMAX
      clear hF hbox c0 c1
      by_cases hu0 : u = 0
      · have t0 : (u != 0) = false := by simpa using hu0
        have hpr : fr = F := by rw [← HFR.out, if_neg (fun h => h.1 hu0)]; exact HMAX.out
        have HPR := Lib.hid hpr
        clear hpr hu0
        have hFr : fr = F := by exact HPR.out
        have hJ4 : J (uptoL f k) (w3.alloc (.cells #[.int .i64 x0, .int .i64 y0, .int .i64 (sg u), .int .i64 (sg v), .int .i64 F] 68)).drew :=
          hJ _ _ _ none hJ3 ⟨rfl, rfl, rfl, by simp, fun q hq _ => Below.heap_alloc w3 _ q hq⟩ (fun r e => by cases e)
        have hb4 : KeepB S W (w3.alloc (.cells #[.int .i64 x0, .int .i64 y0, .int .i64 (sg u), .int .i64 (sg v), .int .i64 F] 68)).drew := (hb3.alloc (fun q hq => by have := hSl q hq; omega) _).drew
        obtain ⟨fn, tmps, assign, body, hy, hR⟩ := hY _ (legW (f k) (f (k + 1))) _ hJ4 hlen
        rw [HLEG.out, hFr] at hy
        dsimp only [encLeg] at hy
        have HFr := Lib.hid hFr
        clear hFr
        gi_wp2_with (first | ((with_reducible refine And.intro ?_ ?_); exact (show Fence.wide.fn 41 from trivial)) | (gi_at_call 41; refine (callsIn_wide.2 (H3.out _)).mono ?_; rintro e w' ⟨rfl, rfl⟩) | (gi_at_call 41; refine (callsIn_wide.2 (H4.out _)).mono ?_; rintro e w' ⟨rfl, rfl⟩))
        refine hR.mono ?_
        rintro e W3 (⟨rfl, hJ5, hk5⟩ | ⟨rfl, hJx5⟩)
        · gi_wp2
          go_roundw
          case rel => exact ⟨k + 1, by omega, by simp, hb4.trans hk5, by rw [uptoL_succ]; exact hJ5, by have := hk5.1; simp at this; omega⟩
          case measure => simp [intOf]; omega
        · gi_wp2
          refine bodyPost_ret (results_none rfl _ _ _) rfl ?_
          exact ⟨⟨_, rfl⟩, .inr ⟨_, ⟨k + 1, by omega, (uptoL_succ _ _).symm⟩, hJx5⟩⟩
      · have t0 : (u != 0) = true := by simpa using hu0
        by_cases hv0 : v = 0
        · have t1 : (v != 0) = false := by simpa using hv0
          have hpr : fr = F := by rw [← HFR.out, if_neg (fun h => h.2.1 hv0)]; exact HMAX.out
          have HPR := Lib.hid hpr
          clear hpr hu0 hv0
          have hFr : fr = F := by exact HPR.out
          have hJ4 : J (uptoL f k) (w3.alloc (.cells #[.int .i64 x0, .int .i64 y0, .int .i64 (sg u), .int .i64 (sg v), .int .i64 F] 68)).drew :=
            hJ _ _ _ none hJ3 ⟨rfl, rfl, rfl, by simp, fun q hq _ => Below.heap_alloc w3 _ q hq⟩ (fun r e => by cases e)
          have hb4 : KeepB S W (w3.alloc (.cells #[.int .i64 x0, .int .i64 y0, .int .i64 (sg u), .int .i64 (sg v), .int .i64 F] 68)).drew := (hb3.alloc (fun q hq => by have := hSl q hq; omega) _).drew
          obtain ⟨fn, tmps, assign, body, hy, hR⟩ := hY _ (legW (f k) (f (k + 1))) _ hJ4 hlen
          rw [HLEG.out, hFr] at hy
          dsimp only [encLeg] at hy
          have HFr := Lib.hid hFr
          clear hFr
          gi_wp2_with (first | ((with_reducible refine And.intro ?_ ?_); exact (show Fence.wide.fn 41 from trivial)) | (gi_at_call 41; refine (callsIn_wide.2 (H3.out _)).mono ?_; rintro e w' ⟨rfl, rfl⟩) | (gi_at_call 41; refine (callsIn_wide.2 (H4.out _)).mono ?_; rintro e w' ⟨rfl, rfl⟩))
          refine hR.mono ?_
          rintro e W3 (⟨rfl, hJ5, hk5⟩ | ⟨rfl, hJx5⟩)
          · gi_wp2
            go_roundw
            case rel => exact ⟨k + 1, by omega, by simp, hb4.trans hk5, by rw [uptoL_succ]; exact hJ5, by have := hk5.1; simp at this; omega⟩
            case measure => simp [intOf]; omega
          · gi_wp2
            refine bodyPost_ret (results_none rfl _ _ _) rfl ?_
            exact ⟨⟨_, rfl⟩, .inr ⟨_, ⟨k + 1, by omega, (uptoL_succ _ _).symm⟩, hJx5⟩⟩
        · have t1 : (v != 0) = true := by simpa using hv0
          by_cases hs0 : szW u = szW v
          · have t2 : (szW u != szW v) = false := by simpa using hs0
            have hpr : fr = F := by rw [← HFR.out, if_neg (fun h => h.2.2 hs0)]; exact HMAX.out
            have HPR := Lib.hid hpr
            clear hpr hu0 hv0 hs0
            have hFr : fr = F := by exact HPR.out
            have hJ4 : J (uptoL f k) (w3.alloc (.cells #[.int .i64 x0, .int .i64 y0, .int .i64 (sg u), .int .i64 (sg v), .int .i64 F] 68)).drew :=
              hJ _ _ _ none hJ3 ⟨rfl, rfl, rfl, by simp, fun q hq _ => Below.heap_alloc w3 _ q hq⟩ (fun r e => by cases e)
            have hb4 : KeepB S W (w3.alloc (.cells #[.int .i64 x0, .int .i64 y0, .int .i64 (sg u), .int .i64 (sg v), .int .i64 F] 68)).drew := (hb3.alloc (fun q hq => by have := hSl q hq; omega) _).drew
            obtain ⟨fn, tmps, assign, body, hy, hR⟩ := hY _ (legW (f k) (f (k + 1))) _ hJ4 hlen
            rw [HLEG.out, hFr] at hy
            dsimp only [encLeg] at hy
            have HFr := Lib.hid hFr
            clear hFr
            gi_wp2_with (first | ((with_reducible refine And.intro ?_ ?_); exact (show Fence.wide.fn 41 from trivial)) | (gi_at_call 41; refine (callsIn_wide.2 (H3.out _)).mono ?_; rintro e w' ⟨rfl, rfl⟩) | (gi_at_call 41; refine (callsIn_wide.2 (H4.out _)).mono ?_; rintro e w' ⟨rfl, rfl⟩))
            refine hR.mono ?_
            rintro e W3 (⟨rfl, hJ5, hk5⟩ | ⟨rfl, hJx5⟩)
            · gi_wp2
              go_roundw
              case rel => exact ⟨k + 1, by omega, by simp, hb4.trans hk5, by rw [uptoL_succ]; exact hJ5, by have := hk5.1; simp at this; omega⟩
              case measure => simp [intOf]; omega
            · gi_wp2
              refine bodyPost_ret (results_none rfl _ _ _) rfl ?_
              exact ⟨⟨_, rfl⟩, .inr ⟨_, ⟨k + 1, by omega, (uptoL_succ _ _).symm⟩, hJx5⟩⟩
          · have t2 : (szW u != szW v) = true := by simpa using hs0
            have hpr : fr = 0 := by rw [← HFR.out, if_pos ⟨hu0, hv0, hs0⟩]
            have HPR := Lib.hid hpr
            clear hpr hu0 hv0 hs0
            have hFr : fr = 0 := by exact HPR.out
            have hJ4 : J (uptoL f k) (w3.alloc (.cells #[.int .i64 x0, .int .i64 y0, .int .i64 (sg u), .int .i64 (sg v), .int .i64 0] 68)).drew :=
              hJ _ _ _ none hJ3 ⟨rfl, rfl, rfl, by simp, fun q hq _ => Below.heap_alloc w3 _ q hq⟩ (fun r e => by cases e)
            have hb4 : KeepB S W (w3.alloc (.cells #[.int .i64 x0, .int .i64 y0, .int .i64 (sg u), .int .i64 (sg v), .int .i64 0] 68)).drew := (hb3.alloc (fun q hq => by have := hSl q hq; omega) _).drew
            obtain ⟨fn, tmps, assign, body, hy, hR⟩ := hY _ (legW (f k) (f (k + 1))) _ hJ4 hlen
            rw [HLEG.out, hFr] at hy
            dsimp only [encLeg] at hy
            have HFr := Lib.hid hFr
            clear hFr
            gi_wp2_with (first | ((with_reducible refine And.intro ?_ ?_); exact (show Fence.wide.fn 41 from trivial)) | (gi_at_call 41; refine (callsIn_wide.2 (H3.out _)).mono ?_; rintro e w' ⟨rfl, rfl⟩) | (gi_at_call 41; refine (callsIn_wide.2 (H4.out _)).mono ?_; rintro e w' ⟨rfl, rfl⟩))
            refine hR.mono ?_
            rintro e W3 (⟨rfl, hJ5, hk5⟩ | ⟨rfl, hJx5⟩)
            · gi_wp2
              go_roundw
              case rel => exact ⟨k + 1, by omega, by simp, hb4.trans hk5, by rw [uptoL_succ]; exact hJ5, by have := hk5.1; simp at this; omega⟩
              case measure => simp [intOf]; omega
            · gi_wp2
              refine bodyPost_ret (results_none rfl _ _ _) rfl ?_
              exact ⟨⟨_, rfl⟩, .inr ⟨_, ⟨k + 1, by omega, (uptoL_succ _ _).symm⟩, hJx5⟩⟩
    · obtain rfl : k = m := by omega
      gi_wp2
      go_end0
      exact ⟨⟨_, rfl⟩, .inl ⟨_, rfl, hJs⟩⟩

/-- the iterator's contract, for the law of a range over a function -/
theorem legs_stops (n : Nat) (hn : 1 ≤ n) (Bs b off m c : Nat) (S : Nat → Prop) (hSb : S b) (hSB : S Bs) (f : Nat → Int × Int) (hm : 1 ≤ m) (hmc : m + 1 ≤ c) (hcm : c ≤ 9223372036854775807) (w : World) (hSl : ∀ q, S q → q < w.heap.size)
    (hBs : w.cell? ⟨Bs, 0, none⟩ = some (.slice (some ⟨b, off, none⟩) (m + 1) c))
    (hc : ∀ k, k ≤ m → w.cell? ⟨b, off + k * 2, none⟩ = some (.int .i64 (f k).1) ∧ w.cell? ⟨b, off + k * 2 + 1, none⟩ = some (.int .i64 (f k).2)) :
    SeqStopsK Fence.wide n Tryd.prog 42 #[.pointer (some ⟨Bs, 0, none⟩)] (fun x => #[encLeg x]) (KeepB S) (fun ys => ys = uptoL f m) (fun pre => ∃ k, k ≤ m ∧ pre = uptoL f k) m w := by
  intro l J Jx W hW hJ hJx hY h0
  exact legs1_core n hn l Bs b off m c S hSb hSB f hm hmc hcm J Jx W (fun q hq => Nat.lt_of_lt_of_le (hSl q hq) hW.size) hJ hJx hY ((hW.cell (p := ⟨Bs, 0, none⟩) (hSl _ hSB)).trans hBs)
    (fun k hk => ⟨(hW.cell (p := ⟨b, off + k * 2, none⟩) (hSl _ hSb)).trans (hc k hk).1, (hW.cell (p := ⟨b, off + k * 2 + 1, none⟩) (hSl _ hSb)).trans (hc k hk).2⟩) h0
end Go.Proofs.YtnbdnnbeiohmgaaDoor
