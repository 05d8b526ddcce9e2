/- drift: whether the bay's flows, drifter and sea are valid. -/
import Derived.Test.YtnbdnnbeiohmgaaDnA
import Derived.Test.YtnbdnnbeiohmgaaDnShelf
namespace Go.Proofs.Ytnbdnnbeiohmgaa
open Go.RowKit Go.Shelf Go.Lib
attribute [local go_sem] Oper.semAt_some

def allB : List R3 := [(0, 0, 5), (1, 0, 5), (2, 0, 5), (3, 0, 5), (4, 0, 5)]
def landB : List R3 := [(0, 4, 5), (1, 4, 5), (2, 4, 5), (3, 4, 5), (4, 4, 5)]
/-- a list of one flow: all cells, from 0 to 2^30, with a speed in x -/
def Flo (w : World) (b : Nat) (A : Option Addr) (c : Nat) (s : Int) : Prop :=
  b < w.heap.size ∧ w.cell? ⟨b, 0, none⟩ = some (.int .i64 0) ∧ w.cell? ⟨b, 1, none⟩ = some (.int .i64 1073741824) ∧ w.cell? ⟨b, 2, none⟩ = some (.slice A 5 c) ∧
  w.cell? ⟨b, 3, none⟩ = some (.int .i64 s) ∧ w.cell? ⟨b, 4, none⟩ = some (.int .i64 0) ∧ w.cell? ⟨b, 5, none⟩ = some (.int .i64 s) ∧ w.cell? ⟨b, 6, none⟩ = some (.int .i64 0) ∧ Runs w (.slice A 5 c) allB
theorem Flo.below {w w' : World} {b c : Nat} {A : Option Addr} {s : Int} (h : Flo w b A c s) (hb : Below w.heap.size w w') : Flo w' b A c s := by
  obtain ⟨h0, c0, c1, c2, c3, c4, c5, c6, hr⟩ := h
  exact ⟨Nat.lt_of_lt_of_le h0 hb.size, (hb.cell h0).trans c0, (hb.cell h0).trans c1, (hb.cell h0).trans c2, (hb.cell h0).trans c3, (hb.cell h0).trans c4, (hb.cell h0).trans c5, (hb.cell h0).trans c6, hr.below hb⟩
/-- the bay's land and flows -/
def Bay (w : World) (L : Option Addr) (lc b1 b2 : Nat) (A : Option Addr) (c : Nat) : Prop := Runs w (.slice L 5 lc) landB ∧ Flo w b1 A c 0 ∧ Flo w b2 A c 5000
theorem Bay.below {w w' : World} {L A : Option Addr} {lc b1 b2 c : Nat} (h : Bay w L lc b1 b2 A c) (hb : Below w.heap.size w w') : Bay w' L lc b1 b2 A c := ⟨h.1.below hb, h.2.1.below hb, h.2.2.below hb⟩
theorem Bay.alloc {w : World} {L A : Option Addr} {lc b1 b2 c : Nat} (h : Bay w L lc b1 b2 A c) (o : Obj) : Bay (w.alloc o) L lc b1 b2 A c := h.below ((Below.refl _ _).alloc (Nat.le_refl _) _)
theorem bay_grid : checkG 5 5 100 landB = true := by decide +kernel
theorem bay_all : checkRs 5 5 100 landB [allB] = true := by decide +kernel

set_option maxRecDepth 100000 in
set_option maxHeartbeats 4000000 in
/-- grid.CheckRegion -/
theorem checkRegion_gr (W H S : Int) (vL : Value) (A : Option Addr) (n cap : Nat) (ld l : List R3) (w : World) (hL : Runs w vL ld) (hv : Runs w (.slice A n cap) l) :
    Calls Try.prog 40 #[.agg #[.int .i64 W, .int .i64 H, .int .i64 S, vL], .slice A n cap] w fun e w' => e = .returned (.int .i64 (argE (checkRs W H S ld [l]))) ∧ Below w.heap.size w w' := by
  obtain ⟨AL, nL, cL, rfl⟩ : ∃ A n c, vL = .slice A n c := by obtain ⟨A, c, rfl, -⟩ := hL; exact ⟨_, _, _, rfl⟩
  obtain ⟨w0, hw0⟩ : ∃ W', w.alloc (.cells #[.int .i64 W, .int .i64 H, .int .i64 S, .slice AL nL cL] 24) = W' := ⟨_, rfl⟩
  have b0 : Below w.heap.size w w0 := by rw [← hw0]; exact (Below.refl _ _).alloc (Nat.le_refl _) _
  have s0 : w0.heap.size = w.heap.size + 1 := by rw [← hw0]; simp
  have b1 : Below w.heap.size w (w0.alloc (.cells #[.slice A n cap] 22)) := b0.alloc (by omega) _
  have hchk := checked_gr W H S (.slice AL nL cL) (.slice (some ⟨w0.heap.size, 0, none⟩) 1 1) ld [.slice A n cap] [l] (w0.alloc (.cells #[.slice A n cap] 22)) (hL.below b1) (Lst_lit (enc := enc1) (k := 1) (fun _ => rfl) w0 w0.heap.size 1 rfl #[.slice A n cap] [.slice A n cap] 22 rfl rfl (by unfold maxLen; omega)) rfl (fun i u x hu hx => by
    match i, hu, hx with
    | 0, hu, hx => simp at hu hx; subst hu hx; exact hv.below b1
    | i + 1, hu, hx => simp at hu)
  rw [← hw0] at hchk s0
  have HC := Lib.hid hchk
  have hbA : Below w.heap.size w ((w.alloc (.cells #[.int .i64 W, .int .i64 H, .int .i64 S, .slice AL nL cL] 24)).alloc (.cells #[.slice A n cap] 22)) := by rw [hw0]; exact b1
  have HB := Lib.hid hbA
  obtain ⟨E, hE⟩ : ∃ E, argE (checkRs W H S ld [l]) = E := ⟨_, rfl⟩
  rw [hE] at HC ⊢
  clear hchk hbA b1 b0 hw0 hL hv hE
  go_enter Try.func40, Try.ntmps40
  go_wp2_with fail
  rw [s0] at HC
  refine HC.out.mono ?_
  rintro e w1 ⟨rfl, hb1⟩
  go_wp2_with fail
  go_ret
  exact ⟨rfl, HB.out.trans (hb1.mono (by simp; omega))⟩

set_option maxRecDepth 100000 in
set_option maxHeartbeats 4000000 in
theorem checkFlow_dn (s : Int) (L A : Option Addr) (lc c : Nat) (w : World) (hL : Runs w (.slice L 5 lc) landB) (hv : Runs w (.slice A 5 c) allB) (hs : inB s (-100000) s = true) (hs' : s ≤ 100000) :
    Calls Try.prog 166 #[.agg #[.int .i64 5, .int .i64 5, .int .i64 100, .slice L 5 lc], .agg #[.int .i64 0, .int .i64 1073741824, .slice A 5 c, .int .i64 s, .int .i64 0, .int .i64 s, .int .i64 0]] w fun e w' => e = .returned (.bool true) ∧ Below w.heap.size w w' := by
  have b1 : Below w.heap.size w ((w.alloc (.cells #[.int .i64 5, .int .i64 5, .int .i64 100, .slice L 5 lc] 24)).alloc (.cells #[.int .i64 0, .int .i64 1073741824, .slice A 5 c, .int .i64 s, .int .i64 0, .int .i64 s, .int .i64 0] 163)) := ((Below.refl _ _).alloc (Nat.le_refl _) _).alloc (by simp) _
  have hchk := checkRegion_gr 5 5 100 (.slice L 5 lc) A 5 c landB allB _ (hL.below b1) (hv.below b1)
  rw [bay_all, argE_true] at hchk
  have HC := Lib.hid hchk
  have HO := Lib.hid (fun W => ordered_dn s W hs hs')
  have HZ := Lib.hid (fun W => ordered_dn 0 W (by decide) (by decide))
  have HB := Lib.hid b1
  clear hchk b1 hL hv hs hs'
  go_enter Try.func166, Try.ntmps166
  go_wp2_with fail
  refine (within_dn _ _ _ _).mono ?_
  rintro e w1 ⟨rfl, rfl⟩
  rw [show inB 0 0 1073741823 = true by decide]
  go_wp2_with fail
  refine (HO.out _).mono ?_
  rintro e w1 ⟨rfl, rfl⟩
  go_wp2_with fail
  refine (HZ.out _).mono ?_
  rintro e w1 ⟨rfl, rfl⟩
  go_wp2_with fail
  refine HC.out.mono ?_
  rintro e w1 ⟨rfl, hb1⟩
  go_wp2_with fail
  go_ret
  exact ⟨rfl, HB.out.trans (hb1.mono (by simp; omega))⟩

set_option maxRecDepth 100000 in
set_option maxHeartbeats 4000000 in
theorem checkFlows1_dn (s : Int) (L A : Option Addr) (lc c G : Nat) (w : World) (hL : Runs w (.slice L 5 lc) landB) (hv : Runs w (.slice A 5 c) allB) (hs : inB s (-100000) s = true) (hs' : s ≤ 100000)
    (hG : G < w.heap.size) (g0 : w.cell? ⟨G, 0, none⟩ = some (.int .i64 5)) (g1 : w.cell? ⟨G, 1, none⟩ = some (.int .i64 5)) (g2 : w.cell? ⟨G, 2, none⟩ = some (.int .i64 100)) (g3 : w.cell? ⟨G, 3, none⟩ = some (.slice L 5 lc)) :
    Calls Try.prog 165 #[.agg #[.int .i64 0, .int .i64 1073741824, .slice A 5 c, .int .i64 s, .int .i64 0, .int .i64 s, .int .i64 0], .pointer (some ⟨G, 0, none⟩)] w fun e w' => e = .returned (.bool false) ∧ Below w.heap.size w w' := by
  have b1 : Below w.heap.size w (w.alloc (.cells #[.int .i64 0, .int .i64 1073741824, .slice A 5 c, .int .i64 s, .int .i64 0, .int .i64 s, .int .i64 0] 163)) := (Below.refl _ _).alloc (Nat.le_refl _) _
  have HC := Lib.hid (checkFlow_dn s L A lc c _ (hL.below b1) (hv.below b1) hs hs')
  have HB := Lib.hid b1
  clear b1 hL hv hs hs'
  go_enter Try.func165, Try.ntmps165
  go_wp2_with fail
  refine HC.out.mono ?_
  rintro e w1 ⟨rfl, hb1⟩
  go_wp2_with fail
  go_ret
  exact ⟨rfl, HB.out.trans (hb1.mono (by simp))⟩

/-- ContainsFunc over no flow -/
theorem hasFlow_none (A : Option Addr) (c : Nat) (fv : Value) (w : World) : Calls Try.prog 164 #[.slice A 0 c, fv] w fun e w' => e = .returned (.bool false) ∧ w = w' := by
  have hi : ∀ w, Calls Try.prog 174 #[.slice A 0 c, fv] w fun e w' => e = .returned (.int .i64 (-1)) ∧ w = w' := by
    intro w
    go_enter Try.func174, Try.ntmps174
    go_wp2_with fail
    go_loopw [8] (fun i wr => i = .int .i64 0 ∧ w = wr) (fun _ _ => 0)
    case atStart => exact ⟨rfl, rfl⟩
    case round =>
      obtain ⟨rfl, rfl⟩ := hrel
      go_wp2_with fail
      go_ret
      exact ⟨rfl, rfl⟩
  go_enter Try.func164, Try.ntmps164
  go_wp2_with fail
  refine (hi _).mono ?_
  rintro e w1 ⟨rfl, rfl⟩
  go_wp2_with fail
  go_ret
  exact ⟨rfl, rfl⟩

/-- ContainsFunc over the bay's one flow: it is valid -/
theorem hasFlow_one (s : Int) (L A : Option Addr) (lc c G b : Nat) (w : World) (hL : Runs w (.slice L 5 lc) landB) (hb : Flo w b A c s) (hs : inB s (-100000) s = true) (hs' : s ≤ 100000)
    (hG : G < w.heap.size) (g0 : w.cell? ⟨G, 0, none⟩ = some (.int .i64 5)) (g1 : w.cell? ⟨G, 1, none⟩ = some (.int .i64 5)) (g2 : w.cell? ⟨G, 2, none⟩ = some (.int .i64 100)) (g3 : w.cell? ⟨G, 3, none⟩ = some (.slice L 5 lc)) :
    Calls Try.prog 164 #[.slice (some ⟨b, 0, none⟩) 1 1, .func (.func 165) #[] #[.pointer (some ⟨G, 0, none⟩)]] w fun e w' => e = .returned (.bool false) ∧ Below w.heap.size w w' := by
  have eg : ∀ args w, (callFunc 165 args).run Try.prog w = .ok (.enter 165 args) w := enters_of Try.func165 (by kernel_rfl) rfl
  obtain ⟨h0, c0, c1, c2, c3, c4, c5, c6, hr⟩ := hb
  exact AnyQ.slices_ContainsFunc Try.hasFlow 7 Try.isAgg163 Try.sizeOf163 (fun _ : Unit => [.int .i64 0, .int .i64 1073741824, .slice A 5 c, .int .i64 s, .int .i64 0, .int .i64 s, .int .i64 0]) (fun _ => rfl) (fun _ => false) 165 #[.pointer (some ⟨G, 0, none⟩)] eg b 0 1 1 [()] w
    (fun W x hW => (checkFlows1_dn s L A lc c G W (hL.below hW) (hr.below hW) hs hs' (Nat.lt_of_lt_of_le hG hW.size) ((hW.cell hG).trans g0) ((hW.cell hG).trans g1) ((hW.cell hG).trans g2) ((hW.cell hG).trans g3)).mono fun e w' ⟨he, hb'⟩ => ⟨he, hW.trans (hb'.mono hW.size)⟩)
    (Nat.le_refl _) (by decide) h0 (fun j hj i u hu => by
      obtain rfl : j = 0 := by simpa using hj
      match i, hu with
      | 0, hu => obtain rfl := Option.some.inj hu; exact c0
      | 1, hu => obtain rfl := Option.some.inj hu; exact c1
      | 2, hu => obtain rfl := Option.some.inj hu; exact c2
      | 3, hu => obtain rfl := Option.some.inj hu; exact c3
      | 4, hu => obtain rfl := Option.some.inj hu; exact c4
      | 5, hu => obtain rfl := Option.some.inj hu; exact c5
      | 6, hu => obtain rfl := Option.some.inj hu; exact c6
      | i + 7, hu => simp at hu)

theorem index_flows0 (b1 b2 : Nat) (w : World) : (Instr.index 245 (.agg #[.slice (some ⟨b1, 0, none⟩) 1 1, .slice (some ⟨b2, 0, none⟩) 1 1]) (.int .i64 0)).run Try.prog w = .ok (.slice (some ⟨b1, 0, none⟩) 1 1) w := by kernel_rfl
theorem index_flows1 (b1 b2 : Nat) (w : World) : (Instr.index 245 (.agg #[.slice (some ⟨b1, 0, none⟩) 1 1, .slice (some ⟨b2, 0, none⟩) 1 1]) (.int .i64 1)).run Try.prog w = .ok (.slice (some ⟨b2, 0, none⟩) 1 1) w := by kernel_rfl

set_option maxRecDepth 100000 in
set_option maxHeartbeats 4000000 in
theorem checkFlows_dn (L A : Option Addr) (lc b1 b2 c : Nat) (w : World) (hB : Bay w L lc b1 b2 A c) :
    Calls Try.prog 131 #[.agg #[.int .i64 5, .int .i64 5, .int .i64 100, .slice L 5 lc], .agg #[.slice (some ⟨b1, 0, none⟩) 1 1, .slice (some ⟨b2, 0, none⟩) 1 1]] w fun e w' => e = .returned (.int .i64 0) ∧ Below w.heap.size w w' := by
  obtain ⟨w0, hw0⟩ : ∃ W', (w.alloc (.cells #[.int .i64 5, .int .i64 5, .int .i64 100, .slice L 5 lc] 24)).alloc (.cells #[.slice (some ⟨b1, 0, none⟩) 1 1, .slice (some ⟨b2, 0, none⟩) 1 1] 80) = W' := ⟨_, rfl⟩
  have k0 : Below w.heap.size w w0 := by rw [← hw0]; exact ((Below.refl _ _).alloc (Nat.le_refl _) _).alloc (by simp) _
  obtain ⟨G, hG⟩ : ∃ G, w.heap.size = G := ⟨_, rfl⟩
  have s0 : G + 1 < w0.heap.size := by rw [← hw0, ← hG]; simp
  have g0 : w0.cell? ⟨G, 0, none⟩ = some (.int .i64 5) := by rw [← hw0, ← hG]; simp [go_sem]
  have g1 : w0.cell? ⟨G, 1, none⟩ = some (.int .i64 5) := by rw [← hw0, ← hG]; simp [go_sem]
  have g2 : w0.cell? ⟨G, 2, none⟩ = some (.int .i64 100) := by rw [← hw0, ← hG]; simp [go_sem]
  have g3 : w0.cell? ⟨G, 3, none⟩ = some (.slice L 5 lc) := by rw [← hw0, ← hG]; simp [go_sem]
  have f0 : w0.cell? ⟨G + 1, 0, none⟩ = some (.slice (some ⟨b1, 0, none⟩) 1 1) := by rw [← hw0, ← hG]; simp [go_sem]
  have f1 : w0.cell? ⟨G + 1, 1, none⟩ = some (.slice (some ⟨b2, 0, none⟩) 1 1) := by rw [← hw0, ← hG]; simp [go_sem]
  have hB0 := hB.below k0
  have hchk := checkGrid_gr 5 5 100 (.slice L 5 lc) landB w0 hB0.1
  rw [bay_grid, argE_true] at hchk
  have HC := Lib.hid hchk
  have HB := Lib.hid hB0
  have HK := Lib.hid k0
  clear hchk hB0 k0 hB
  go_enter Try.func131, Try.ntmps131
  go_upto_region 1 with fail
  clear hw0
  have HG := Lib.hid hG
  clear hG
  go_wp2_with fail
  refine HC.out.mono ?_
  rintro e w1 ⟨rfl, hb1⟩
  have g0 := (hb1.cell (p := ⟨G, 0, none⟩) (by show G < _; omega)).trans g0
  have g1 := (hb1.cell (p := ⟨G, 1, none⟩) (by show G < _; omega)).trans g1
  have g2 := (hb1.cell (p := ⟨G, 2, none⟩) (by show G < _; omega)).trans g2
  have g3 := (hb1.cell (p := ⟨G, 3, none⟩) (by show G < _; omega)).trans g3
  have f0 := (hb1.cell (p := ⟨G + 1, 0, none⟩) (by show G + 1 < _; omega)).trans f0
  have f1 := (hb1.cell (p := ⟨G + 1, 1, none⟩) (by show G + 1 < _; omega)).trans f1
  have s1 := Nat.lt_of_lt_of_le s0 hb1.size
  have HB1 := Lib.hid (HB.out.below hb1)
  have HK1 := Lib.hid (HK.out.trans (hb1.mono (by have := HK.out.size; omega)))
  clear HK HB hb1
  go_wp2_with fail
  go_loopw [15] (fun i wr => ∃ k : Nat, k ≤ 2 ∧ i = .int .i64 k ∧ Below w1.heap.size w1 wr) (fun i _ => 2 - (intOf i).toNat)
  case atStart => exact ⟨0, by omega, rfl, Below.refl _ _⟩
  case round =>
    obtain ⟨k, hk, rfl, hbr⟩ := hrel
    obtain rfl | rfl | rfl : k = 0 ∨ k = 1 ∨ k = 2 := by omega
    ·
      have g0 := (hbr.cell (p := ⟨G, 0, none⟩) (by show G < _; omega)).trans g0
      have g1 := (hbr.cell (p := ⟨G, 1, none⟩) (by show G < _; omega)).trans g1
      have g2 := (hbr.cell (p := ⟨G, 2, none⟩) (by show G < _; omega)).trans g2
      have g3 := (hbr.cell (p := ⟨G, 3, none⟩) (by show G < _; omega)).trans g3
      have f0 := (hbr.cell (p := ⟨G + 1, 0, none⟩) (by show G + 1 < _; omega)).trans f0
      have f1 := (hbr.cell (p := ⟨G + 1, 1, none⟩) (by show G + 1 < _; omega)).trans f1
      have HBr := HB1.out.below hbr
      have HF := Lib.hid (hasFlow_one 0 L A lc c G b1 wr HBr.1 HBr.2.1 (by decide) (by decide) (Nat.lt_of_lt_of_le (by omega : G < w1.heap.size) hbr.size) g0 g1 g2 g3)
      have HR := Lib.hid hbr
      clear HBr hbr
      have hi0 := index_flows0 b1 b2 wr
      have hi1 := index_flows1 b1 b2 wr
      go_wp2_with fail
      refine HF.out.mono ?_
      rintro e w2 ⟨rfl, hb2⟩
      have hb3 := HR.out.trans (hb2.mono HR.out.size)
      clear hb2
      go_wp2_with fail
      go_roundw
      case rel => exact ⟨1, by omega, rfl, hb3⟩
      case measure => decide
    ·
      have g0 := (hbr.cell (p := ⟨G, 0, none⟩) (by show G < _; omega)).trans g0
      have g1 := (hbr.cell (p := ⟨G, 1, none⟩) (by show G < _; omega)).trans g1
      have g2 := (hbr.cell (p := ⟨G, 2, none⟩) (by show G < _; omega)).trans g2
      have g3 := (hbr.cell (p := ⟨G, 3, none⟩) (by show G < _; omega)).trans g3
      have f0 := (hbr.cell (p := ⟨G + 1, 0, none⟩) (by show G + 1 < _; omega)).trans f0
      have f1 := (hbr.cell (p := ⟨G + 1, 1, none⟩) (by show G + 1 < _; omega)).trans f1
      have HBr := HB1.out.below hbr
      have HF := Lib.hid (hasFlow_one 5000 L A lc c G b2 wr HBr.1 HBr.2.2 (by decide) (by decide) (Nat.lt_of_lt_of_le (by omega : G < w1.heap.size) hbr.size) g0 g1 g2 g3)
      have HR := Lib.hid hbr
      clear HBr hbr
      have hi0 := index_flows0 b1 b2 wr
      have hi1 := index_flows1 b1 b2 wr
      go_wp2_with fail
      refine HF.out.mono ?_
      rintro e w2 ⟨rfl, hb2⟩
      have hb3 := HR.out.trans (hb2.mono HR.out.size)
      clear hb2
      go_wp2_with fail
      go_roundw
      case rel => exact ⟨2, by omega, rfl, hb3⟩
      case measure => decide
    · have HR := Lib.hid hbr
      clear hbr
      go_wp2_with fail
      go_ret
      exact ⟨rfl, HK1.out.trans (HR.out.mono HK1.out.size)⟩
end Go.Proofs.Ytnbdnnbeiohmgaa
