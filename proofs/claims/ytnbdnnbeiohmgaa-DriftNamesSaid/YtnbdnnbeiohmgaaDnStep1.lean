/- drift: step's regions. -/
import Derived.Test.YtnbdnnbeiohmgaaDnGroups
import Derived.Test.YtnbdnnbeiohmgaaDnMeet
namespace Go.Proofs.Ytnbdnnbeiohmgaa
open Go.RowKit Go.Shelf Go.Lib Go.Maps
attribute [local go_sem] Oper.semAt_some

theorem Below.drewR {B : Nat} {a w : World} (h : Below B a w) : Below B a w.drew := ⟨h.os, h.tape, h.output, h.size, h.block⟩
theorem sizeD (w : World) : w.drew.heap.size = w.heap.size := rfl
theorem sizeS (w : World) (p : Addr) (v : Value) : (w.setCell p v).heap.size = w.heap.size := by simp [World.setCell]
theorem HasO.drewR {w : World} {b : Nat} {o : Obj} (h : HasO w b o) : HasO w.drew b o := h
theorem HasO.newR {w : World} {b : Nat} {o : Obj} (h : w.heap.size = b) : HasO (w.alloc o) b o := by subst h; exact heap_alloc_new w _
theorem HasO.allocR {w : World} {b : Nat} {o o' : Obj} (h : HasO w b o) : HasO (w.alloc o') b o := h.alloc o'
theorem HasO.setNe {w : World} {b b' i : Nat} {o : Obj} {v : Value} (hne : b ≠ b') (h : HasO w b o) : HasO (w.setCell ⟨b', i, none⟩ v) b o := h.xm (Xm.set w v) hne
theorem HasO.setMap {w : World} {b : Nat} {t : TypeId} {v : Value} (h : HasO w b (.cells #[.map none] t (0, 0))) : HasO (w.setCell ⟨b, 0, none⟩ v) b (.cells #[v] t (0, 0)) := h.set
theorem xm_of_drew {M : Nat} {w w' : World} (h : Xm M w.drew w') : Xm M w w' := ⟨h.os, h.tape, h.output, h.size, h.block⟩
theorem neNil (M : Nat) : ∀ z, z ∈ ([] : List (Nat × Nat × Value)) → z.1 ≠ M := fun z hz => by cases hz
theorem neCons {M b i : Nat} {v : Value} {l : List (Nat × Nat × Value)} (h : b ≠ M) (t : ∀ z, z ∈ l → z.1 ≠ M) : ∀ z, z ∈ (b, i, v) :: l → z.1 ≠ M := fun z hz => by
  rcases List.mem_cons.1 hz with rfl | hz
  · exact h
  · exact t z hz
/-- a list of runs is not kept where a patch lies -/
theorem Runs.xmPatch {M : Nat} {a : Int} {P0 P1 P2 : Option Addr} {k0 k1 k2 e0 e1 e2 : Nat} {o : Bool} {t : TypeId} {f : Nat × Nat} {w w' : World} {v : Value} {l : List R3} (h : Runs w v l) (hM : HasO w M (.cells #[.int .i64 a, .slice P0 k0 e0, .slice P1 k1 e1, .slice P2 k2 e2, .bool o] t f)) (hx : Xm M w w') : Runs w' v l := by
  obtain ⟨A, c, e, h1, h2, h3⟩ := h
  refine ⟨A, c, e, h1, h2, fun h0 => ?_⟩
  obtain ⟨b, off, rfl, hb, hc⟩ := h3 h0
  have hne : b ≠ M := fun e => by
    subst e
    obtain ⟨x, hx⟩ : ∃ x, l[0]? = some x := ⟨_, List.getElem?_eq_getElem h0⟩
    have k := hc 0 1 x (.int .i64 x.2.1) hx rfl
    have hM' : w.heap[b]? = some _ := hM
    simp only [World.cell?, hM'] at k
    match off, k with
    | 0, k => simp at k
    | 1, k => simp at k
    | 2, k => simp at k
    | 3, k => simp at k
    | n + 4, k => simp at k
  exact ⟨b, off, rfl, Nat.lt_of_lt_of_le hb hx.size, fun j i x u hj hu => hx.cell hb hne (hc j i x u hj hu)⟩
theorem drewB (w : World) : Below w.heap.size w w.drew := ⟨rfl, rfl, rfl, Nat.le_refl _, fun _ _ => rfl⟩
/-- a set of cells of the bay -/
structure BaySet (w : World) (M N : Nat) (S : Int → Int → Bool) : Prop where
  set : SetT w M N S
  few : N ≤ 65536
  bay : ∀ x y, isI64 x → isI64 y → S x y = true → (0 ≤ x ∧ x < 5) ∧ 0 ≤ y ∧ y < 5
  out : ∀ x y, ¬ (isI64 x ∧ isI64 y) → S x y = false
theorem BaySet.below {w w' : World} {M N : Nat} {S : Int → Int → Bool} (h : BaySet w M N S) (hb : Below w.heap.size w w') : BaySet w' M N S := ⟨h.set.size hb, h.few, h.bay, h.out⟩
theorem SetT.xm {w w' : World} {b n M : Nat} {S : Int → Int → Bool} (h : SetT w b n S) (hx : Xm M w w') (hne : b ≠ M) : SetT w' b n S := by
  have hl := h.lt
  obtain ⟨D, ⟨es, clock, hh, F, hs, hD⟩, h2⟩ := h
  exact ⟨D, ⟨es, clock, (hx.block b hl hne).trans hh, F, hs, hD⟩, h2⟩
theorem BaySet.xm {w w' : World} {M N K : Nat} {S : Int → Int → Bool} (h : BaySet w M N S) (hx : Xm K w w') (hne : M ≠ K) : BaySet w' M N S := ⟨h.set.xm hx hne, h.few, h.bay, h.out⟩
theorem BaySet.plus {w w' : World} {M N n : Nat} {S : Int → Int → Bool} {l : List (Int × Int)} (h : BaySet w M N S) (hs : SetT w' M (N + n) (Plus S l)) (hb : inBay l = true) (hn : N + n ≤ 65536) : BaySet w' M (N + n) (Plus S l) :=
  ⟨hs, hn, fun x y hx hy e => by
    simp only [Plus, Bool.or_eq_true, decide_eq_true_eq] at e
    rcases e with e | e
    · exact h.bay x y hx hy e
    · exact inBay_mem hb _ e, fun x y hi => by
    simp only [Plus, Bool.or_eq_false_iff, decide_eq_false_iff_not]
    refine ⟨h.out x y hi, fun e => hi ?_⟩
    have := inBay_mem hb _ e
    unfold isI64
    omega⟩
theorem BaySet.new {w : World} {M : Nat} (h : HasO w M (.map #[] 0)) : BaySet w M 0 fun _ _ => false :=
  ⟨⟨.map [], ⟨#[], 0, h, ⟨by simp, MapKept.stamped_empty 0, by simp⟩, Nat.le_refl _, rfl⟩, fun _ _ _ _ => ⟨rfl, rfl⟩⟩, by omega, fun _ _ _ _ e => (by cases e), fun _ _ _ => rfl⟩
theorem BaySet.region {w : World} {M N Ml Nl : Nat} {S T : Int → Int → Bool} (u : Bool) {L : Option Addr} {lc : Nat} (h : BaySet w M N S) (hT : BaySet w Ml Nl T) (hL : Runs w (.slice L 5 lc) landB) :
    Calls Try.prog 145 #[.map (some M), .agg #[.int .i64 5, .int .i64 5, .int .i64 100, .slice L 5 lc], .map (some Ml), .bool u] w fun e w' => (∃ A n c, e = .returned (.tuple #[.slice A n c, .int .i64 0]) ∧ Runs w' (.slice A n c) (refR (Sift S T u) 5 5)) ∧ Below w.heap.size w w' :=
  region_dn L lc M N Ml Nl S T u w hL h.set hT.set h.few h.bay h.out
/-- what the boxes of a step hold -/
structure StepB (w : World) (L : Option Addr) (lc b1 b2 Yb Zb Xb Fb Mb Ml Ma Mc Nb Nl Na Nc : Nat) (Sb Sl Sa Sc : Int → Int → Bool) : Prop where
  hL : Runs w (.slice L 5 lc) landB
  sb : BaySet w Mb Nb Sb
  sl : BaySet w Ml Nl Sl
  sa : BaySet w Ma Na Sa
  sc : BaySet w Mc Nc Sc
  yb : HasO w Yb (.cells #[.map (some Mb)] 210 (0, 0))
  xb : HasO w Xb (.cells #[.map (some Ml)] 210 (0, 0))
  fb : HasO w Fb (.cells #[.map (some Ma), .map (some Mc)] 212 (0, 0))
  zb : HasO w Zb (.cells #[.int .i64 5, .int .i64 5, .int .i64 100, .slice L 5 lc, .slice (some ⟨b1, 0, none⟩) 1 1, .slice (some ⟨b2, 0, none⟩) 1 1, .int .i64 20, .int .i64 20, .int .i64 10, .int .i64 20, .bool false] 165 (0, 0))
theorem StepB.below {w w' : World} {L : Option Addr} {lc b1 b2 Yb Zb Xb Fb Mb Ml Ma Mc Nb Nl Na Nc : Nat} {Sb Sl Sa Sc : Int → Int → Bool} (h : StepB w L lc b1 b2 Yb Zb Xb Fb Mb Ml Ma Mc Nb Nl Na Nc Sb Sl Sa Sc) (hb : Below w.heap.size w w') : StepB w' L lc b1 b2 Yb Zb Xb Fb Mb Ml Ma Mc Nb Nl Na Nc Sb Sl Sa Sc :=
  ⟨h.hL.below hb, h.sb.below hb, h.sl.below hb, h.sa.below hb, h.sc.below hb, h.yb.below hb, h.xb.below hb, h.fb.below hb, h.zb.below hb⟩

set_option maxRecDepth 100000 in
set_option maxHeartbeats 8000000 in
theorem step1_0 {L : Option Addr} {lc b1 b2 Yb Zb Xb Fb Mb Ml Ma Mc Nb Nl Na Nc : Nat} {Sb Sl Sa Sc : Int → Int → Bool} {w : World} (h : StepB w L lc b1 b2 Yb Zb Xb Fb Mb Ml Ma Mc Nb Nl Na Nc Sb Sl Sa Sc) :
    Calls Try.prog 144 #[.int .i64 0, .pointer (some ⟨Yb, 0, none⟩), .pointer (some ⟨Zb, 0, none⟩), .pointer (some ⟨Xb, 0, none⟩), .pointer (some ⟨Fb, 0, none⟩)] w fun e w' => (∃ A n c, e = .returned (.tuple #[.slice A n c, .int .i64 0]) ∧ Runs w' (.slice A n c) (refR (Sift Sa Sl false) 5 5)) ∧ Below w.heap.size w w' := by
  have HH := Lib.hid h
  have BB0 := Lib.hid (Below.refl w.heap.size w)
  have HR := Lib.hid (fun W (hW : Below w.heap.size w W) => BaySet.region false (h.sa.below hW) (h.sl.below hW) (h.hL.below hW))
  have zc0 := HasO.cell (i := 0) h.zb rfl
  have zc1 := HasO.cell (i := 1) h.zb rfl
  have zc2 := HasO.cell (i := 2) h.zb rfl
  have zc3 := HasO.cell (i := 3) h.zb rfl
  have xc0 := HasO.cell (i := 0) h.xb rfl
  have zz := h.zb.lt
  have zx := h.xb.lt
  have zf := h.fb.lt
  have fc0 := HasO.cell (i := 0) h.fb rfl
  clear h
  have zc0 : w.cell? ⟨Zb, 0, none⟩ = some (.int .i64 5) := zc0
  have zc1 : w.cell? ⟨Zb, 1, none⟩ = some (.int .i64 5) := zc1
  have zc2 : w.cell? ⟨Zb, 2, none⟩ = some (.int .i64 100) := zc2
  have zc3 : w.cell? ⟨Zb, 3, none⟩ = some (.slice L 5 lc) := zc3
  have xc0 : w.cell? ⟨Xb, 0, none⟩ = some (.map (some Ml)) := xc0
  have fc0 : w.cell? ⟨Fb, 0, none⟩ = some (.map (some Ma)) := fc0
  go_enter Try.func144, Try.ntmps144
  go_upto_region 3 with fail
  have Q1 := Lib.hid (show Holds w [(Zb, 0, .int .i64 5), (Zb, 1, .int .i64 5), (Zb, 2, .int .i64 100), (Zb, 3, .slice L 5 lc), (Xb, 0, .map (some Ml)), (Fb, 0, .map (some Ma))] from .cons zz zc0 (.cons zz zc1 (.cons zz zc2 (.cons zz zc3 (.cons zx xc0 (.cons zf fc0 (.nil _)))))))
  go_region_held3 (fun W' => W'.cell? ⟨Zb, 0, none⟩ = some (.int .i64 5) ∧ W'.cell? ⟨Zb, 1, none⟩ = some (.int .i64 5) ∧ W'.cell? ⟨Zb, 2, none⟩ = some (.int .i64 100) ∧ W'.cell? ⟨Zb, 3, none⟩ = some (.slice L 5 lc) ∧ W'.cell? ⟨Xb, 0, none⟩ = some (.map (some Ml)) ∧ W'.cell? ⟨Fb, 0, none⟩ = some (.map (some Ma)))
    (first | with_reducible exact holds6 Q1.out | with_reducible exact holds6 (.drew Q1.out) | with_reducible exact holds6 Q2.out | fail)
    (first | (go_at_call 145; refine (HR.out _ (by first | exact Below.refl _ _ | exact drewB _)).mono ?_; rintro e w1 ⟨⟨A, n, c, rfl, hr⟩, hb⟩; have kb : Below w.heap.size w w1 := (by first | exact below_plain hb | exact below_of_drew hb); have Q2 := Lib.hid (Q1.out.below kb); have HV := Lib.hid hr; have HB := Lib.hid kb; clear hr hb kb; skip))
  go_wp2_with fail
  exact bodyPost_ret (v := .tuple #[.slice A n c, .int .i64 0]) (by simp [results, Try.results144, go_sem]) rfl ⟨⟨A, n, c, rfl, HV.out⟩, HB.out⟩
set_option maxRecDepth 100000 in
set_option maxHeartbeats 8000000 in
theorem step1_1 {L : Option Addr} {lc b1 b2 Yb Zb Xb Fb Mb Ml Ma Mc Nb Nl Na Nc : Nat} {Sb Sl Sa Sc : Int → Int → Bool} {w : World} (h : StepB w L lc b1 b2 Yb Zb Xb Fb Mb Ml Ma Mc Nb Nl Na Nc Sb Sl Sa Sc) :
    Calls Try.prog 144 #[.int .i64 1, .pointer (some ⟨Yb, 0, none⟩), .pointer (some ⟨Zb, 0, none⟩), .pointer (some ⟨Xb, 0, none⟩), .pointer (some ⟨Fb, 0, none⟩)] w fun e w' => (∃ A n c, e = .returned (.tuple #[.slice A n c, .int .i64 0]) ∧ Runs w' (.slice A n c) (refR (Sift Sc Sl false) 5 5)) ∧ Below w.heap.size w w' := by
  have HH := Lib.hid h
  have BB0 := Lib.hid (Below.refl w.heap.size w)
  have HR := Lib.hid (fun W (hW : Below w.heap.size w W) => BaySet.region false (h.sc.below hW) (h.sl.below hW) (h.hL.below hW))
  have zc0 := HasO.cell (i := 0) h.zb rfl
  have zc1 := HasO.cell (i := 1) h.zb rfl
  have zc2 := HasO.cell (i := 2) h.zb rfl
  have zc3 := HasO.cell (i := 3) h.zb rfl
  have xc0 := HasO.cell (i := 0) h.xb rfl
  have zz := h.zb.lt
  have zx := h.xb.lt
  have zf := h.fb.lt
  have fc0 := HasO.cell (i := 1) h.fb rfl
  clear h
  have zc0 : w.cell? ⟨Zb, 0, none⟩ = some (.int .i64 5) := zc0
  have zc1 : w.cell? ⟨Zb, 1, none⟩ = some (.int .i64 5) := zc1
  have zc2 : w.cell? ⟨Zb, 2, none⟩ = some (.int .i64 100) := zc2
  have zc3 : w.cell? ⟨Zb, 3, none⟩ = some (.slice L 5 lc) := zc3
  have xc0 : w.cell? ⟨Xb, 0, none⟩ = some (.map (some Ml)) := xc0
  have fc0 : w.cell? ⟨Fb, 1, none⟩ = some (.map (some Mc)) := fc0
  go_enter Try.func144, Try.ntmps144
  go_upto_region 3 with fail
  have Q1 := Lib.hid (show Holds w [(Zb, 0, .int .i64 5), (Zb, 1, .int .i64 5), (Zb, 2, .int .i64 100), (Zb, 3, .slice L 5 lc), (Xb, 0, .map (some Ml)), (Fb, 1, .map (some Mc))] from .cons zz zc0 (.cons zz zc1 (.cons zz zc2 (.cons zz zc3 (.cons zx xc0 (.cons zf fc0 (.nil _)))))))
  go_region_held3 (fun W' => W'.cell? ⟨Zb, 0, none⟩ = some (.int .i64 5) ∧ W'.cell? ⟨Zb, 1, none⟩ = some (.int .i64 5) ∧ W'.cell? ⟨Zb, 2, none⟩ = some (.int .i64 100) ∧ W'.cell? ⟨Zb, 3, none⟩ = some (.slice L 5 lc) ∧ W'.cell? ⟨Xb, 0, none⟩ = some (.map (some Ml)) ∧ W'.cell? ⟨Fb, 1, none⟩ = some (.map (some Mc)))
    (first | with_reducible exact holds6 Q1.out | with_reducible exact holds6 (.drew Q1.out) | with_reducible exact holds6 Q2.out | fail)
    (first | (go_at_call 145; refine (HR.out _ (by first | exact Below.refl _ _ | exact drewB _)).mono ?_; rintro e w1 ⟨⟨A, n, c, rfl, hr⟩, hb⟩; have kb : Below w.heap.size w w1 := (by first | exact below_plain hb | exact below_of_drew hb); have Q2 := Lib.hid (Q1.out.below kb); have HV := Lib.hid hr; have HB := Lib.hid kb; clear hr hb kb; skip))
  go_wp2_with fail
  exact bodyPost_ret (v := .tuple #[.slice A n c, .int .i64 0]) (by simp [results, Try.results144, go_sem]) rfl ⟨⟨A, n, c, rfl, HV.out⟩, HB.out⟩
set_option maxRecDepth 100000 in
set_option maxHeartbeats 8000000 in
theorem step1_2 {L : Option Addr} {lc b1 b2 Yb Zb Xb Fb Mb Ml Ma Mc Nb Nl Na Nc : Nat} {Sb Sl Sa Sc : Int → Int → Bool} {w : World} (h : StepB w L lc b1 b2 Yb Zb Xb Fb Mb Ml Ma Mc Nb Nl Na Nc Sb Sl Sa Sc) :
    Calls Try.prog 144 #[.int .i64 2, .pointer (some ⟨Yb, 0, none⟩), .pointer (some ⟨Zb, 0, none⟩), .pointer (some ⟨Xb, 0, none⟩), .pointer (some ⟨Fb, 0, none⟩)] w fun e w' => (∃ A n c, e = .returned (.tuple #[.slice A n c, .int .i64 0]) ∧ Runs w' (.slice A n c) (refR (Sift Sb Sl true) 5 5)) ∧ Below w.heap.size w w' := by
  have HH := Lib.hid h
  have BB0 := Lib.hid (Below.refl w.heap.size w)
  have HR := Lib.hid (fun W (hW : Below w.heap.size w W) => BaySet.region true (h.sb.below hW) (h.sl.below hW) (h.hL.below hW))
  have zc0 := HasO.cell (i := 0) h.zb rfl
  have zc1 := HasO.cell (i := 1) h.zb rfl
  have zc2 := HasO.cell (i := 2) h.zb rfl
  have zc3 := HasO.cell (i := 3) h.zb rfl
  have xc0 := HasO.cell (i := 0) h.xb rfl
  have zz := h.zb.lt
  have zx := h.xb.lt
  have zf := h.fb.lt
  have yc0 := HasO.cell (i := 0) h.yb rfl
  clear h
  go_enter Try.func144, Try.ntmps144
  go_wp2_with fail
  refine (HR.out _ (Below.refl _ _)).mono ?_
  rintro e w1 ⟨⟨A, n, c, rfl, hr⟩, hb⟩
  have HV := Lib.hid hr
  have HB := Lib.hid hb
  clear hr hb
  go_wp2_with fail
  exact bodyPost_ret (v := .tuple #[.slice A n c, .int .i64 0]) (by simp [results, Try.results144, go_sem]) rfl ⟨⟨A, n, c, rfl, HV.out⟩, HB.out⟩
end Go.Proofs.Ytnbdnnbeiohmgaa
