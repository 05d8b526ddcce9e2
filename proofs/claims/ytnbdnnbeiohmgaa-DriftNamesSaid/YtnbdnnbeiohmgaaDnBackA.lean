/- drift: sea.meets. -/
import Derived.Test.YtnbdnnbeiohmgaaDnStep1
namespace Go.Proofs.Ytnbdnnbeiohmgaa
open Go.RowKit Go.Shelf Go.Lib Go.Maps
attribute [local go_sem] Oper.semAt_some

theorem size_none {D : DataW Unit} (hD : IsMap D) (h0 : size D = 0) (k : Lit) : has D k = false := by
  obtain ⟨es, rfl⟩ := hD
  rw [Maps.size_eq] at h0
  rw [has_eq, List.eq_nil_of_length_eq_zero h0]
  rfl
/-- the length of a set that a call asks for -/
def LenT (w : World) (b : Nat) (k : Int) : Prop := ∀ ty, (Builtin.len_ #[210] ty #[.map (some b)]).run Try.prog w = .ok (.int .i64 k) w
theorem SetT.lenT {w : World} {b n : Nat} {S : Int → Int → Bool} (h : SetT w b n S) : (LenT w b 0 ∧ ∀ x y, isI64 x → isI64 y → S x y = false) ∨ ∃ k, k ≠ 0 ∧ LenT w b k := by
  obtain ⟨D, hown, hD⟩ := h
  rcases Nat.eq_zero_or_pos (Maps.size D) with e | e
  · refine .inl ⟨fun ty => ?_, fun x y hx hy => by rw [← (hD x y hx hy).2]; exact size_none hown.isMap e _⟩
    have h := hown.len setTy ty
    rw [e] at h
    exact h
  · exact .inr ⟨_, by omega, fun ty => hown.len setTy ty⟩
theorem wpList_lenT (w : World) {ops : Array Oper} {rest : List Oper} {o : Oper} {a : Act} {Q : Exit → Act → World → Prop} (hg : o.guard = none) (m : Operand) (hop : o.op = Op.call { callee := Callee.builtin Builtin.len, args := #[m], argTypes := #[210] })
    (b : Nat) (k : Int) (hm : a.eval m = .map (some b)) (hl : LenT w b k) (hK : wpList Try.prog ops Q rest (a.put o.dst (.int .i64 k)) w) : wpList Try.prog ops Q (o :: rest) a w := by
  refine wpList_plain hg fun K' hK' => ?_
  unfold Oper.wp
  simp [execOp, hop, resolve, invoke, builtin, hm, hl o.type, Result.andThen]
  exact hK' _ _ hK

/-- ContainsFunc over no cell -/
theorem hasCell_none (A : Option Addr) (c : Nat) (fv : Value) (w : World) : Calls Try.prog 168 #[.slice A 0 c, fv] w fun e w' => e = .returned (.bool false) ∧ w = w' := by
  have hi : ∀ w, Calls Try.prog 177 #[.slice A 0 c, fv] w fun e w' => e = .returned (.int .i64 (-1)) ∧ w = w' := by
    intro w
    go_enter Try.func177, Try.ntmps177
    go_wp2_with fail
    go_loopw [8] (fun i wr => i = .int .i64 0 ∧ w = wr) (fun _ _ => 0)
    case atStart => exact ⟨rfl, rfl⟩
    case round =>
      obtain ⟨rfl, rfl⟩ := hrel
      go_wp2_with fail
      go_ret
      exact ⟨rfl, rfl⟩
  go_enter Try.func168, Try.ntmps168
  go_wp2_with fail
  refine (hi _).mono ?_
  rintro e w1 ⟨rfl, rfl⟩
  go_wp2_with fail
  go_ret
  exact ⟨rfl, rfl⟩
/-- ContainsFunc over cells -/
theorem has_cell (g : Nat) (cb : Array Value) (p : Int × Int → Bool) (v : Value) (l : List (Int × Int)) (w : World) (h : Lst 2 encC w v l) (eg : ∀ args w, (callFunc g args).run Try.prog w = .ok (.enter g args) w)
    (hp : ∀ (W : World) (x : Int × Int), x ∈ l → Below w.heap.size w W → Calls Try.prog g (#[.agg #[.int .i64 x.1, .int .i64 x.2]] ++ cb) W fun e w' => e = .returned (.bool (p x)) ∧ Below W.heap.size W w') :
    Calls Try.prog 168 #[v, .func (.func g) #[] cb] w fun e w' => e = .returned (.bool (l.any p)) ∧ Below w.heap.size w w' := by
  obtain ⟨A, c, rfl, h1, h2, h3⟩ := h
  unfold maxLen at h2
  rcases Nat.eq_zero_or_pos l.length with h0 | h0
  · have hl : l = [] := List.eq_nil_of_length_eq_zero h0
    subst hl
    refine (hasCell_none A c _ w).mono ?_
    rintro e w' ⟨rfl, rfl⟩
    exact ⟨rfl, Below.refl _ _⟩
  · obtain ⟨b, off, rfl, hb, hc⟩ := h3 h0
    have hmem : l[0] ∈ l := List.getElem_mem h0
    haveI : Inhabited { z // z ∈ l } := ⟨⟨l[0], hmem⟩⟩
    have hcon := AnyQ.slices_ContainsFunc Try.hasCell 2 Try.isAgg39 Try.sizeOf39 (fun z : { z // z ∈ l } => encC z.1) (fun z => encC_len z.1) (fun z => p z.1) g cb eg b off l.length c l.attach w
      (fun W x hW => (hp W x.1 x.2 hW).mono fun e w' ⟨he, hb'⟩ => ⟨he, hW.trans (hb'.mono hW.size)⟩) (by simp) (by omega) hb
      (fun j hj i u hu => by
        rw [List.length_attach] at hj
        have e : l.attach[j]! = ⟨l[j], List.getElem_mem hj⟩ := by simp [hj]
        rw [e] at hu
        exact hc j i _ u (List.getElem?_eq_getElem hj) hu)
    rw [List.take_of_length_le (by simp), show (l.attach.any fun z => p z.1) = l.any p from by rw [Bool.eq_iff_iff]; simp [List.any_eq_true]] at hcon
    exact hcon

set_option maxRecDepth 100000 in
theorem meets1_dn (X M N : Nat) (S : Int → Int → Bool) (x y : Int) (w : World) (hX : HasO w X (.cells #[.map (some M)] 210 (0, 0))) (hM : BaySet w M N S) (ix : isI64 x) (iy : isI64 y) :
    Calls Try.prog 169 #[.agg #[.int .i64 x, .int .i64 y], .pointer (some ⟨X, 0, none⟩)] w fun e w' => e = .returned (.bool (S x y)) ∧ Below w.heap.size w w' := by
  have xc := HasO.cell (i := 0) hX rfl
  have xl := hX.lt
  have hTr := hM.set.setC.alloc (.cells #[.int .i64 x, .int .i64 y] 39)
  obtain ⟨b, hb⟩ : ∃ b, S x y = b := ⟨_, rfl⟩
  have HBv := Lib.hid hb
  rw [hb]
  clear hb hM hX
  go_enter Try.func169, Try.ntmps169
  go_wp2_with (first | (at_lookup; refine wpList_lookup_setC _ rfl _ _ 210 rfl setTy M N S rfl hTr x y rfl ix iy ?_; rw [HBv.out]))
  go_ret
  exact ⟨rfl, (Below.refl _ _).alloc (Nat.le_refl _) _⟩

set_option maxRecDepth 100000 in
set_option maxHeartbeats 16000000 in
theorem meets_dn (L : Option Addr) (lc b1 b2 M N : Nat) (S : Int → Int → Bool) (x y a b c d : Int) (R : List R3) (off : Bool) (w : World) (hL : Runs w (.slice L 5 lc) landB) (hM : BaySet w M N S) (hg : Grown (y, x, x + 1) a b c d R off) (hx : 0 ≤ x ∧ x < 5) :
    Calls Try.prog 148 #[.agg #[.int .i64 5, .int .i64 5, .int .i64 100, .slice L 5 lc, .slice (some ⟨b1, 0, none⟩) 1 1, .slice (some ⟨b2, 0, none⟩) 1 1, .int .i64 20, .int .i64 20, .int .i64 10, .int .i64 20, .bool false], .agg #[.int .i64 x, .int .i64 y], .agg #[.int .i64 a, .int .i64 b, .int .i64 c, .int .i64 d], .map (some M)] w fun e w' => e = .returned (.bool ((cellsL R).any fun z => S z.1 z.2)) ∧ Below w.heap.size w w' := by
  obtain ⟨v, hv⟩ : ∃ v, ((cellsL R).any fun z => S z.1 z.2) = v := ⟨_, rfl⟩
  rw [hv]
  have HV := Lib.hid hv
  have ex : wrap64 (x + 1) = x + 1 := wrapId _ (by omega) (by omega)
  have HL_0 := Lib.hid hL
  have HM_0 := Lib.hid hM
  have HG := Lib.hid hg
  have hMl := hM.set.lt
  have BB0 := Lib.hid (Below.refl w.heap.size w)
  clear hL hM hg hv
  go_enter Try.func148, Try.ntmps148
  go_upto_region 1 with fail
  obtain ⟨Z, hZ⟩ : ∃ Z, w.heap.size = Z := ⟨_, rfl⟩
  obtain ⟨w1, hw1⟩ : ∃ Z, ((((w.alloc (.cells #[.int .i64 5, .int .i64 5, .int .i64 100, .slice L 5 lc, .slice (some ⟨b1, 0, none⟩) 1 1, .slice (some ⟨b2, 0, none⟩) 1 1, .int .i64 20, .int .i64 20, .int .i64 10, .int .i64 20, .bool false] 165)).alloc (.cells #[.int .i64 x, .int .i64 y] 39)).alloc (.cells #[.int .i64 a, .int .i64 b, .int .i64 c, .int .i64 d] 28)).alloc (.cells #[.map (some M)] 210)) = Z := ⟨_, rfl⟩
  have k1 : Below w.heap.size w w1 := by rw [← hw1]; exact (((((Below.refl _ _).alloc (Nat.le_refl _) _).alloc (by simp) _).alloc (by simp; omega) _).alloc (by simp; omega) _)
  have z1 : Z + 1 + 1 + 1 < w1.heap.size := by rw [← hw1, ← hZ]; simp
  have y1 : w.heap.size = Z := hZ
  have sea_1 : HasO w1 (Z) (.cells #[.int .i64 5, .int .i64 5, .int .i64 100, .slice L 5 lc, .slice (some ⟨b1, 0, none⟩) 1 1, .slice (some ⟨b2, 0, none⟩) 1 1, .int .i64 20, .int .i64 20, .int .i64 10, .int .i64 20, .bool false] 165 (0, 0)) := by rw [← hw1, ← hZ]; have h := (HasO.alloc (HasO.alloc (HasO.alloc (HasO.new (w := w) (o := .cells #[.int .i64 5, .int .i64 5, .int .i64 100, .slice L 5 lc, .slice (some ⟨b1, 0, none⟩) 1 1, .slice (some ⟨b2, 0, none⟩) 1 1, .int .i64 20, .int .i64 20, .int .i64 10, .int .i64 20, .bool false] 165) rfl) (.cells #[.int .i64 x, .int .i64 y] 39)) (.cells #[.int .i64 a, .int .i64 b, .int .i64 c, .int .i64 d] 28)) (.cells #[.map (some M)] 210)); simpa only [World.size_alloc] using h
  have cel_1 : HasO w1 (Z + 1) (.cells #[.int .i64 x, .int .i64 y] 39 (0, 0)) := by rw [← hw1, ← hZ]; have h := (HasO.alloc (HasO.alloc (HasO.new (w := (w.alloc (.cells #[.int .i64 5, .int .i64 5, .int .i64 100, .slice L 5 lc, .slice (some ⟨b1, 0, none⟩) 1 1, .slice (some ⟨b2, 0, none⟩) 1 1, .int .i64 20, .int .i64 20, .int .i64 10, .int .i64 20, .bool false] 165))) (o := .cells #[.int .i64 x, .int .i64 y] 39) rfl) (.cells #[.int .i64 a, .int .i64 b, .int .i64 c, .int .i64 d] 28)) (.cells #[.map (some M)] 210)); simpa only [World.size_alloc] using h
  have pb_1 : HasO w1 (Z + 1 + 1) (.cells #[.int .i64 a, .int .i64 b, .int .i64 c, .int .i64 d] 28 (0, 0)) := by rw [← hw1, ← hZ]; have h := (HasO.alloc (HasO.new (w := ((w.alloc (.cells #[.int .i64 5, .int .i64 5, .int .i64 100, .slice L 5 lc, .slice (some ⟨b1, 0, none⟩) 1 1, .slice (some ⟨b2, 0, none⟩) 1 1, .int .i64 20, .int .i64 20, .int .i64 10, .int .i64 20, .bool false] 165)).alloc (.cells #[.int .i64 x, .int .i64 y] 39))) (o := .cells #[.int .i64 a, .int .i64 b, .int .i64 c, .int .i64 d] 28) rfl) (.cells #[.map (some M)] 210)); simpa only [World.size_alloc] using h
  have tb_1 : HasO w1 (Z + 1 + 1 + 1) (.cells #[.map (some M)] 210 (0, 0)) := by rw [← hw1, ← hZ]; have h := (HasO.new (w := (((w.alloc (.cells #[.int .i64 5, .int .i64 5, .int .i64 100, .slice L 5 lc, .slice (some ⟨b1, 0, none⟩) 1 1, .slice (some ⟨b2, 0, none⟩) 1 1, .int .i64 20, .int .i64 20, .int .i64 10, .int .i64 20, .bool false] 165)).alloc (.cells #[.int .i64 x, .int .i64 y] 39)).alloc (.cells #[.int .i64 a, .int .i64 b, .int .i64 c, .int .i64 d] 28))) (o := .cells #[.map (some M)] 210) rfl); simpa only [World.size_alloc] using h
  (try rw [hw1]); (try rw [hZ])
  clear hw1 hZ
  have S1 := k1.size
  have HL_1 := Lib.hid (HL_0.out.below k1)
  have HM_1 := Lib.hid (HM_0.out.below k1)
  have BB1 := Lib.hid (BB0.out.trans (k1.mono BB0.out.size))
  clear k1 HL_0 HM_0 BB0
  have seaH_1 := Lib.hid sea_1
  clear sea_1
  have celH_1 := Lib.hid cel_1
  clear cel_1
  have pbH_1 := Lib.hid pb_1
  clear pb_1
  have tbH_1 := Lib.hid tb_1
  clear tb_1
  have q1tb0 := HasO.cell (i := 0) tbH_1.out rfl
  rcases SetT.lenT HM_1.out.set with ⟨hlen, hno⟩ | ⟨k, hk, hlen⟩
  · have HN := Lib.hid hno
    clear hno
    go_wp2_with (at_len; refine wpList_lenT _ rfl _ rfl M 0 rfl hlen ?_)
    go_ret
    have hvf : v = false := by
      rw [← HV.out]
      exact List.any_eq_false.2 fun z hz => by
        have := inBay_mem HG.out.bay z hz
        rw [HN.out z.1 z.2 (by unfold isI64; omega) (by unfold isI64; omega)]
        simp
    subst hvf
    exact ⟨rfl, BB1.out⟩
  have hk2 : (k == 0) = false := by simpa using hk
  have hk3 : decide (k = 0) = false := by simpa using hk
  go_upto_region 3 with (at_len; refine wpList_lenT _ rfl _ rfl M k rfl hlen ?_)
  clear q1tb0
  have q1sea0 := HasO.cell (i := 0) seaH_1.out rfl
  have q1sea1 := HasO.cell (i := 1) seaH_1.out rfl
  have q1sea2 := HasO.cell (i := 2) seaH_1.out rfl
  have q1sea3 := HasO.cell (i := 3) seaH_1.out rfl
  have q1cel0 := HasO.cell (i := 0) celH_1.out rfl
  have q1cel1 := HasO.cell (i := 1) celH_1.out rfl
  have q1pb0 := HasO.cell (i := 0) pbH_1.out rfl
  have q1pb1 := HasO.cell (i := 1) pbH_1.out rfl
  have q1pb2 := HasO.cell (i := 2) pbH_1.out rfl
  have q1pb3 := HasO.cell (i := 3) pbH_1.out rfl
  have zpb : Z + 1 + 1 < w1.heap.size := by omega
  go_wp2_with fail
  refine (gr_dn HG.out (.slice L 5 lc) (.slice (some ⟨w1.heap.size, 0, none⟩) 1 1) _ (HL_1.out.below ((Below.refl _ _).alloc (Nat.le_refl _) _)) (Lst_lit encR_len w1 w1.heap.size 1 rfl #[.int .i64 y, .int .i64 x, .int .i64 (x + 1)] [(y, x, x + 1)] 72 rfl rfl (by unfold maxLen; omega))).mono ?_
  rintro e w2 ⟨⟨B, m, cb, rfl, hr⟩, hb2⟩
  have k2 : Below w1.heap.size w1 w2 := ((Below.refl w1.heap.size w1).alloc (Nat.le_refl _) _).trans (hb2.mono (by simp))
  clear hb2
  have S2 := k2.size
  have HL_2 := Lib.hid (HL_1.out.below k2)
  have HM_2 := Lib.hid (HM_1.out.below k2)
  have sea_2 := Lib.hid (seaH_1.out.below k2)
  have cel_2 := Lib.hid (celH_1.out.below k2)
  have pb_2 := Lib.hid (pbH_1.out.below k2)
  have tb_2 := Lib.hid (tbH_1.out.below k2)
  have BB2 := Lib.hid (BB1.out.trans (k2.mono BB1.out.size))
  clear k2 HL_1 HM_1 seaH_1 celH_1 pbH_1 tbH_1 BB1
  clear q1sea0 q1sea1 q1sea2 q1sea3 q1cel0 q1cel1 q1pb0 q1pb1 q1pb2 q1pb3
  have HR_h2 := Lib.hid (hr)
  clear hr hk hk2 hk3 hlen
  have q2sea0 := HasO.cell (i := 0) sea_2.out rfl
  have q2sea1 := HasO.cell (i := 1) sea_2.out rfl
  have q2sea2 := HasO.cell (i := 2) sea_2.out rfl
  have q2sea3 := HasO.cell (i := 3) sea_2.out rfl
  go_wp2_with fail
  refine (cells_dn L B lc m cb R _ HL_2.out HR_h2.out HG.out.ok2).mono ?_
  rintro e w3 ⟨⟨CC, cc, rfl, hl⟩, hb3⟩
  have k3 : Below w2.heap.size w2 w3 := hb3
  clear hb3
  have S3 := k3.size
  have HL_3 := Lib.hid (HL_2.out.below k3)
  have HM_3 := Lib.hid (HM_2.out.below k3)
  have sea_3 := Lib.hid (sea_2.out.below k3)
  have cel_3 := Lib.hid (cel_2.out.below k3)
  have pb_3 := Lib.hid (pb_2.out.below k3)
  have tb_3 := Lib.hid (tb_2.out.below k3)
  have HR_3 := Lib.hid (HR_h2.out.below k3)
  have BB3 := Lib.hid (BB2.out.trans (k3.mono BB2.out.size))
  clear k3 HL_2 HM_2 sea_2 cel_2 pb_2 tb_2 HR_h2 BB2
  clear q2sea0 q2sea1 q2sea2 q2sea3
  have HLs := Lib.hid hl
  clear hl
  have HC := Lib.hid (has_cell 169 #[.pointer (some ⟨Z + 1 + 1 + 1, 0, none⟩)] (fun z => S z.1 z.2) _ (cellsL R) w3 HLs.out (enters_of Try.func169 (by kernel_rfl) rfl) (fun W z hz hW => by have := inBay_mem HG.out.bay z hz; exact meets1_dn _ M N S z.1 z.2 W (HasO.below tb_3.out hW) (HM_3.out.below hW) (by unfold isI64; omega) (by unfold isI64; omega)))
  go_wp2_with fail
  refine (HC.out).mono ?_
  rintro e w4 ⟨rfl, hb4⟩
  have k4 : Below w3.heap.size w3 w4 := hb4
  clear hb4
  have S4 := k4.size
  have HL_4 := Lib.hid (HL_3.out.below k4)
  have HM_4 := Lib.hid (HM_3.out.below k4)
  have sea_4 := Lib.hid (sea_3.out.below k4)
  have cel_4 := Lib.hid (cel_3.out.below k4)
  have pb_4 := Lib.hid (pb_3.out.below k4)
  have tb_4 := Lib.hid (tb_3.out.below k4)
  have HR_4 := Lib.hid (HR_3.out.below k4)
  have BB4 := Lib.hid (BB3.out.trans (k4.mono BB3.out.size))
  clear k4 HL_3 HM_3 sea_3 cel_3 pb_3 tb_3 HR_3 BB3
  rw [HV.out]
  go_wp2_with fail
  go_ret
  exact ⟨rfl, BB4.out⟩
end Go.Proofs.Ytnbdnnbeiohmgaa
