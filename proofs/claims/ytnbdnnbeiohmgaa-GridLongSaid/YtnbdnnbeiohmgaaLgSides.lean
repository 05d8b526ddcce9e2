/- GridLong: the program's sets and the document's, in one form. -/
import Derived.Test.YtnbdnnbeiohmgaaLgTwo
import Derived.Test.YtnbdnnbeiohmgaaLgEither
import Derived.Test.YtnbdnnbeiohmgaaLgBoth
import Derived.Test.YtnbdnnbeiohmgaaLgEq
namespace Go.Proofs.Ytnbdnnbeiohmgaa
open Go.RowKit Go.Shelf

def setP (kd : Int) (a b : List R3) : Int → Int → Bool := fun x y => cmb kd (hasL a x y) (hasL b x y)
def outE (kd : Int) (a b : List R3) (W H : Int) : Int := if (refR (setP kd a b) W.toNat H.toNat).length ≤ 8192 then 0 else 3
def outL (kd : Int) (a b : List R3) (W H : Int) : List R3 := if (refR (setP kd a b) W.toNat H.toNat).length ≤ 8192 then refR (setP kd a b) W.toNat H.toNat else []
theorem cmb0 (x y : Bool) : cmb 0 x y = (x || y) := by cases x <;> cases y <;> rfl
theorem cmb1 (x y : Bool) : cmb 1 x y = (x && y) := by cases x <;> cases y <;> rfl
theorem cmb2 (x y : Bool) : cmb 2 x y = (x && !y) := by cases x <;> cases y <;> rfl

/-- what each of the six calls gives -/
def Gives (kd : Int) (a b : List R3) (W H : Int) (w : World) (e : Ending) (w' : World) : Prop :=
  (∃ v, e = .returned (.tuple #[v, .int .i64 (outE kd a b W H)]) ∧ Runs w' v (outL kd a b W H)) ∧ Below w.heap.size w w'

theorem gives_of {kd : Int} {a b R : List R3} {W H : Int} {w w' : World} {e : Ending} (hR : R = refR (setP kd a b) W.toNat H.toNat) (h : (∃ v, e = .returned (.tuple #[v, .int .i64 (if R.length ≤ 8192 then 0 else 3)]) ∧ Runs w' v (if R.length ≤ 8192 then R else []))) (hb : Below w.heap.size w w') : Gives kd a b W H w e w' := by
  subst hR
  exact ⟨h, hb⟩

structure Both2 (w : World) (W H S : Int) (vL va vb : Value) (ld a b : List R3) : Prop where
  hW : 1 ≤ W ∧ W ≤ 256
  hH : 1 ≤ H ∧ H ≤ 256
  hS : 1 ≤ S ∧ S ≤ 50000
  hLd : Runs w vL ld
  hpL : Proper W H ld
  hlL : ld.length ≤ 8192
  ha : Runs w va a
  hb : Runs w vb b
  hpa : Proper W H a
  hpb : Proper W H b
  hla : a.length ≤ 8192
  hlb : b.length ≤ 8192
  ha0 : 0 < a.length
  hb0 : 0 < b.length
section
variable {w : World} {W H S : Int} {vL va vb : Value} {ld a b : List R3}
theorem Both2.below {w' : World} (h : Both2 w W H S vL va vb ld a b) (hb : Below w.heap.size w w') : Both2 w' W H S vL va vb ld a b :=
  { h with hLd := h.hLd.below hb, ha := h.ha.below hb, hb := h.hb.below hb }
theorem Both2.ok (h : Both2 w W H S vL va vb ld a b) : checkRs W H S ld [a, b] = true := by
  have i1 : inB W 1 256 = true := by simp only [inB, Bool.and_eq_true, decide_eq_true_eq]; exact h.hW
  have i2 : inB H 1 256 = true := by simp only [inB, Bool.and_eq_true, decide_eq_true_eq]; exact h.hH
  have i3 : inB S 1 50000 = true := by simp only [inB, Bool.and_eq_true, decide_eq_true_eq]; exact h.hS
  simp only [checkRs, checkG, List.all_cons, List.all_nil, rightB, i1, i2, i3, h.hpL.1, h.hpa.1, h.hpb.1, decide_eq_true h.hlL, decide_eq_true h.hla, decide_eq_true h.hlb, Bool.and_self]
theorem p_either (h : Both2 w W H S vL va vb ld a b) : Calls Try.prog 20 #[.agg #[.int .i64 W, .int .i64 H, .int .i64 S, vL], va, vb] w (Gives 0 a b W H w) := by
  refine (geither_gr W H S vL va vb ld a b w h.hLd h.ha h.hb h.ok h.ha0 h.hb0).mono ?_
  rintro e w' ⟨⟨R, hR, v, he, hv⟩, hb⟩
  refine gives_of ?_ ⟨v, he, hv⟩ hb
  rw [either_eq h.hW h.hH h.hpa h.hpb hR]
  exact refR_congr fun x y _ _ _ _ => (cmb0 _ _).symm
theorem p_both (h : Both2 w W H S vL va vb ld a b) : Calls Try.prog 22 #[.agg #[.int .i64 W, .int .i64 H, .int .i64 S, vL], va, vb] w (Gives 1 a b W H w) := by
  refine (gboth_gr W H S vL va vb ld a b w h.hLd h.ha h.hb h.ok).mono ?_
  rintro e w' ⟨⟨R, hR, v, he, hv⟩, hb⟩
  refine gives_of ?_ ⟨v, he, hv⟩ hb
  rw [both_eq h.hW h.hH h.hpa h.hpb hR]
  exact refR_congr fun x y _ _ _ _ => (cmb1 _ _).symm
theorem p_without (h : Both2 w W H S vL va vb ld a b) : Calls Try.prog 24 #[.agg #[.int .i64 W, .int .i64 H, .int .i64 S, vL], va, vb] w (Gives 2 a b W H w) := by
  refine (without_gr W H S vL va vb ld a b w h.hLd h.ha h.hb h.ok).mono ?_
  rintro e w' ⟨⟨R, hR, v, he, hv⟩, hb⟩
  refine gives_of ?_ ⟨v, he, hv⟩ hb
  rw [without_eq h.hW h.hH h.hpa h.hpb hR]
  exact refR_congr fun x y _ _ _ _ => (cmb2 _ _).symm
theorem r_two (kd : Int) (hkd : kd = 0 ∨ kd = 1 ∨ kd = 2) (h : Both2 w W H S vL va vb ld a b) : Calls Try.prog 66 #[.agg #[.int .i64 W, .int .i64 H, .int .i64 S, vL], va, vb, .int .i64 kd] w (Gives kd a b W H w) :=
  (two_ref W H S kd vL va vb ld a b w h.hW h.hH h.hS hkd h.hLd h.hpL h.hlL h.ha h.hb h.hpa h.hpb h.hla h.hlb).mono fun _ _ hp => hp
end

set_option maxRecDepth 100000 in
theorem r_either {w : World} {W H S : Int} {vL va vb : Value} {ld a b : List R3} (h : Both2 w W H S vL va vb ld a b) : Calls Try.prog 21 #[.agg #[.int .i64 W, .int .i64 H, .int .i64 S, vL], va, vb] w (Gives 0 a b W H w) := by
  have b1 : Below w.heap.size w (w.alloc (.cells #[.int .i64 W, .int .i64 H, .int .i64 S, vL] 24)) := (Below.refl w.heap.size w).alloc (Nat.le_refl _) _
  have HT := Lib.hid (r_two 0 (.inl rfl) (h.below b1))
  have h' := Lib.hid h
  clear h
  go_enter Try.func21, Try.ntmps21
  go_wp2_with fail
  refine HT.out.mono ?_
  rintro e w2 ⟨⟨v, rfl, hv⟩, hb⟩
  obtain ⟨E, hE⟩ : ∃ E, outE 0 a b W H = E := ⟨_, rfl⟩
  rw [hE]
  have HE := Lib.hid hE
  have b2 := b1.trans (hb.mono b1.size)
  clear hE hb b1
  go_wp2_with fail
  exact bodyPost_ret (v := .tuple #[v, .int .i64 E]) (by simp [results, Try.results21, go_sem]) rfl ⟨⟨v, by rw [HE.out], hv⟩, b2⟩
set_option maxRecDepth 100000 in
theorem r_both {w : World} {W H S : Int} {vL va vb : Value} {ld a b : List R3} (h : Both2 w W H S vL va vb ld a b) : Calls Try.prog 23 #[.agg #[.int .i64 W, .int .i64 H, .int .i64 S, vL], va, vb] w (Gives 1 a b W H w) := by
  have b1 : Below w.heap.size w (w.alloc (.cells #[.int .i64 W, .int .i64 H, .int .i64 S, vL] 24)) := (Below.refl w.heap.size w).alloc (Nat.le_refl _) _
  have HT := Lib.hid (r_two 1 (.inr (.inl rfl)) (h.below b1))
  have h' := Lib.hid h
  clear h
  go_enter Try.func23, Try.ntmps23
  go_wp2_with fail
  refine HT.out.mono ?_
  rintro e w2 ⟨⟨v, rfl, hv⟩, hb⟩
  obtain ⟨E, hE⟩ : ∃ E, outE 1 a b W H = E := ⟨_, rfl⟩
  rw [hE]
  have HE := Lib.hid hE
  have b2 := b1.trans (hb.mono b1.size)
  clear hE hb b1
  go_wp2_with fail
  exact bodyPost_ret (v := .tuple #[v, .int .i64 E]) (by simp [results, Try.results23, go_sem]) rfl ⟨⟨v, by rw [HE.out], hv⟩, b2⟩
set_option maxRecDepth 100000 in
theorem r_without {w : World} {W H S : Int} {vL va vb : Value} {ld a b : List R3} (h : Both2 w W H S vL va vb ld a b) : Calls Try.prog 25 #[.agg #[.int .i64 W, .int .i64 H, .int .i64 S, vL], va, vb] w (Gives 2 a b W H w) := by
  have b1 : Below w.heap.size w (w.alloc (.cells #[.int .i64 W, .int .i64 H, .int .i64 S, vL] 24)) := (Below.refl w.heap.size w).alloc (Nat.le_refl _) _
  have HT := Lib.hid (r_two 2 (.inr (.inr rfl)) (h.below b1))
  have h' := Lib.hid h
  clear h
  go_enter Try.func25, Try.ntmps25
  go_wp2_with fail
  refine HT.out.mono ?_
  rintro e w2 ⟨⟨v, rfl, hv⟩, hb⟩
  obtain ⟨E, hE⟩ : ∃ E, outE 2 a b W H = E := ⟨_, rfl⟩
  rw [hE]
  have HE := Lib.hid hE
  have b2 := b1.trans (hb.mono b1.size)
  clear hE hb b1
  go_wp2_with fail
  exact bodyPost_ret (v := .tuple #[v, .int .i64 E]) (by simp [results, Try.results25, go_sem]) rfl ⟨⟨v, by rw [HE.out], hv⟩, b2⟩

/-- same, of two answers that are the same -/
theorem lsame_gr (v u : Value) (E : Int) (l : List R3) (w : World) (h : Runs w v l) (k : Runs w u l) : Calls Try.prog 26 #[v, .int .i64 E, u, .int .i64 E] w fun e w' => e = .returned (.bool true) ∧ Below w.heap.size w w' := by
  have HS := Lib.hid (same_gr v u l w h k)
  obtain ⟨A1, c1, rfl, -⟩ := h
  obtain ⟨A2, c2, rfl, -⟩ := k
  go_enter Try.func26, Try.ntmps26
  go_wp2_with fail
  refine HS.out.mono ?_
  rintro e w2 ⟨rfl, hb⟩
  go_wp2_with fail
  go_ret
  exact ⟨rfl, hb⟩
end Go.Proofs.Ytnbdnnbeiohmgaa
