/- drift: CheckPatch at the bay. -/
import Derived.Test.YtnbdnnbeiohmgaaDnC
import Derived.Test.YtnbdnnbeiohmgaaLgBoth
namespace Go.Proofs.Ytnbdnnbeiohmgaa
open Go.RowKit Go.Shelf Go.Lib
attribute [local go_sem] Oper.semAt_some

theorem both_c (L A B : Option Addr) (lc n m ca cb : Nat) (a b R0 : List R3) (w : World) (hL : Runs w (.slice L 5 lc) landB) (ha : Runs w (.slice A n ca) a) (hb : Runs w (.slice B m cb) b) (hok : checkRs 5 5 100 landB [a, b] = true)
    (h1 : ∀ y, y < 256 → (bothF 5 5 (a.length + b.length) a b (fun _ => []) y).length ≤ 1) (h2 : rowsR (bothF 5 5 (a.length + b.length) a b fun _ => []) 256 = R0) (h3 : R0.length ≤ 8192) :
    Calls Try.prog 22 #[.agg #[.int .i64 5, .int .i64 5, .int .i64 100, .slice L 5 lc], .slice A n ca, .slice B m cb] w fun e w' => (∃ C cc, e = .returned (.tuple #[.slice C R0.length cc, .int .i64 0]) ∧ Runs w' (.slice C R0.length cc) R0) ∧ Below w.heap.size w w' := by
  refine (gboth_gr 5 5 100 (.slice L 5 lc) (.slice A n ca) (.slice B m cb) landB a b w hL ha hb hok).mono ?_
  rintro e w' ⟨⟨R, hR, v, rfl, hv⟩, hb'⟩
  have hRe : R = R0 := (hR.single h1).trans h2
  subst hRe
  rw [if_pos h3] at hv ⊢
  obtain ⟨C, cc, rfl, -⟩ := id hv
  exact ⟨⟨C, cc, rfl, hv⟩, hb'⟩
theorem without_c (L A B : Option Addr) (lc m ca cb : Nat) (b : List R3) (w : World) (hL : Runs w (.slice L 5 lc) landB) (ha : Runs w (.slice A 0 ca) []) (hb : Runs w (.slice B m cb) b) (hok : checkRs 5 5 100 landB [[], b] = true) :
    Calls Try.prog 24 #[.agg #[.int .i64 5, .int .i64 5, .int .i64 100, .slice L 5 lc], .slice A 0 ca, .slice B m cb] w fun e w' => (∃ C cc, e = .returned (.tuple #[.slice C 0 cc, .int .i64 0]) ∧ Runs w' (.slice C 0 cc) []) ∧ Below w.heap.size w w' := by
  refine (without_gr 5 5 100 (.slice L 5 lc) (.slice A 0 ca) (.slice B m cb) landB [] b w hL ha hb hok).mono ?_
  rintro e w' ⟨⟨R, hR, v, rfl, hv⟩, hb'⟩
  rw [bothF_nilA] at hR
  have hRe : R = [] := (hR.single (fun y _ => by simp)).trans (by decide +kernel)
  subst hRe
  obtain ⟨C, cc, rfl, -⟩ := (show Runs w' v [] from hv)
  exact ⟨⟨C, cc, rfl, hv⟩, hb'⟩

theorem index_reg0 (A1 A2 A3 : Option Addr) (n1 n2 n3 c1 c2 c3 : Nat) (w : World) : (Instr.index 208 (.agg #[.slice A1 n1 c1, .slice A2 n2 c2, .slice A3 n3 c3]) (.int .i64 0)).run Try.prog w = .ok (.slice A1 n1 c1) w := by kernel_rfl
theorem index_reg1 (A1 A2 A3 : Option Addr) (n1 n2 n3 c1 c2 c3 : Nat) (w : World) : (Instr.index 208 (.agg #[.slice A1 n1 c1, .slice A2 n2 c2, .slice A3 n3 c3]) (.int .i64 1)).run Try.prog w = .ok (.slice A2 n2 c2) w := by kernel_rfl
theorem index_reg2 (A1 A2 A3 : Option Addr) (n1 n2 n3 c1 c2 c3 : Nat) (w : World) : (Instr.index 208 (.agg #[.slice A1 n1 c1, .slice A2 n2 c2, .slice A3 n3 c3]) (.int .i64 2)).run Try.prog w = .ok (.slice A3 n3 c3) w := by kernel_rfl

/-- a region of the bay that is afloat -/
structure Afloat (l : List R3) : Prop where
  reg : checkRs 5 5 100 landB [l] = true
  ok : checkRs 5 5 100 landB [l, landB] = true
  one : ∀ y, y < 256 → (bothF 5 5 (l.length + landB.length) l landB (fun _ => []) y).length ≤ 1
  none : rowsR (bothF 5 5 (l.length + landB.length) l landB fun _ => []) 256 = []

set_option maxRecDepth 100000 in
set_option maxHeartbeats 8000000 in
/-- CheckPatch: regions afloat that have no land; nothing on the beach -/
theorem checkPatch_dn (t : Int) (o : Bool) (L A1 A2 : Option Addr) (lc n1 n2 c1 c2 : Nat) (l1 l2 : List R3) (w : World) (hL : Runs w (.slice L 5 lc) landB) (h1 : Runs w (.slice A1 n1 c1) l1) (h2 : Runs w (.slice A2 n2 c2) l2) (ht : inB t 0 1073741824 = true) (k1 : Afloat l1) (k2 : Afloat l2) :
    Calls Try.prog 98 #[.agg #[.int .i64 5, .int .i64 5, .int .i64 100, .slice L 5 lc], .agg #[.int .i64 t, .slice A1 n1 c1, .slice A2 n2 c2, .slice none 0 0, .bool o]] w fun e w' => e = .returned (.int .i64 0) ∧ Below w.heap.size w w' := by
  obtain ⟨w0, hw0⟩ : ∃ W', (w.alloc (.cells #[.int .i64 5, .int .i64 5, .int .i64 100, .slice L 5 lc] 24)).alloc (.cells #[.int .i64 t, .slice A1 n1 c1, .slice A2 n2 c2, .slice none 0 0, .bool o] 89) = W' := ⟨_, rfl⟩
  have b0 : Below w.heap.size w w0 := by rw [← hw0]; exact ((Below.refl _ _).alloc (Nat.le_refl _) _).alloc (by simp) _
  obtain ⟨Z, hZ⟩ : ∃ Z, w.heap.size = Z := ⟨_, rfl⟩
  have s0 : Z + 1 < w0.heap.size := by rw [← hw0, ← hZ]; simp
  have g0 : w0.cell? ⟨Z, 0, none⟩ = some (.int .i64 5) := by rw [← hw0, ← hZ]; simp [go_sem]
  have g1 : w0.cell? ⟨Z, 1, none⟩ = some (.int .i64 5) := by rw [← hw0, ← hZ]; simp [go_sem]
  have g2 : w0.cell? ⟨Z, 2, none⟩ = some (.int .i64 100) := by rw [← hw0, ← hZ]; simp [go_sem]
  have g3 : w0.cell? ⟨Z, 3, none⟩ = some (.slice L 5 lc) := by rw [← hw0, ← hZ]; simp [go_sem]
  have p0 : w0.cell? ⟨Z + 1, 0, none⟩ = some (.int .i64 t) := by rw [← hw0, ← hZ]; simp [go_sem]
  have p1 : w0.cell? ⟨Z + 1, 1, none⟩ = some (.slice A1 n1 c1) := by rw [← hw0, ← hZ]; simp [go_sem]
  have p2 : w0.cell? ⟨Z + 1, 2, none⟩ = some (.slice A2 n2 c2) := by rw [← hw0, ← hZ]; simp [go_sem]
  have p3 : w0.cell? ⟨Z + 1, 3, none⟩ = some (.slice none 0 0) := by rw [← hw0, ← hZ]; simp [go_sem]
  have p4 : w0.cell? ⟨Z + 1, 4, none⟩ = some (.bool o) := by rw [← hw0, ← hZ]; simp [go_sem]
  have HL := Lib.hid (hL.below b0)
  have H1 := Lib.hid (h1.below b0)
  have H2 := Lib.hid (h2.below b0)
  have HK := Lib.hid b0
  have HC := Lib.hid (checkGrid_gr 5 5 100 (.slice L 5 lc) landB w0 (hL.below b0))
  rw [bay_grid, argE_true] at HC
  have HT := Lib.hid ht
  clear b0 hL h1 h2 ht
  go_enter Try.func98, Try.ntmps98
  go_upto_region 1 with fail
  (try rw [hw0]); (try rw [hZ])
  have HZ := Lib.hid hZ
  clear hw0 hZ
  go_wp2_with fail
  refine HC.out.mono ?_
  rintro e w1 ⟨rfl, hb1⟩
  have g0 := (hb1.cell (p := ⟨Z, 0, none⟩) (by show Z < _; omega)).trans g0
  have g1 := (hb1.cell (p := ⟨Z, 1, none⟩) (by show Z < _; omega)).trans g1
  have g2 := (hb1.cell (p := ⟨Z, 2, none⟩) (by show Z < _; omega)).trans g2
  have g3 := (hb1.cell (p := ⟨Z, 3, none⟩) (by show Z < _; omega)).trans g3
  have p0 := (hb1.cell (p := ⟨Z + 1, 0, none⟩) (by show Z + 1 < _; omega)).trans p0
  have p1 := (hb1.cell (p := ⟨Z + 1, 1, none⟩) (by show Z + 1 < _; omega)).trans p1
  have p2 := (hb1.cell (p := ⟨Z + 1, 2, none⟩) (by show Z + 1 < _; omega)).trans p2
  have p3 := (hb1.cell (p := ⟨Z + 1, 3, none⟩) (by show Z + 1 < _; omega)).trans p3
  have p4 := (hb1.cell (p := ⟨Z + 1, 4, none⟩) (by show Z + 1 < _; omega)).trans p4
  have s1 := Nat.lt_of_lt_of_le s0 hb1.size
  have HL := Lib.hid (HL.out.below hb1)
  have H1 := Lib.hid (H1.out.below hb1)
  have H2 := Lib.hid (H2.out.below hb1)
  have HK := Lib.hid (HK.out.trans (hb1.mono HK.out.size))
  clear hb1 s0
  go_wp2_with fail
  refine (within_dn _ _ _ _).mono ?_
  rintro e wz ⟨rfl, rfl⟩
  rw [HT.out]
  go_wp2_with fail
  refine (of_dn t o A1 A2 none n1 n2 0 c1 c2 0 _).mono ?_
  rintro e w2 ⟨rfl, hb2⟩
  have g0 := (hb2.cell (p := ⟨Z, 0, none⟩) (by show Z < _; omega)).trans g0
  have g1 := (hb2.cell (p := ⟨Z, 1, none⟩) (by show Z < _; omega)).trans g1
  have g2 := (hb2.cell (p := ⟨Z, 2, none⟩) (by show Z < _; omega)).trans g2
  have g3 := (hb2.cell (p := ⟨Z, 3, none⟩) (by show Z < _; omega)).trans g3
  have s2 : Z < w2.heap.size := by have := hb2.size; omega
  have HL := Lib.hid (HL.out.below hb2)
  have H1 := Lib.hid (H1.out.below hb2)
  have H2 := Lib.hid (H2.out.below hb2)
  have HK := Lib.hid (HK.out.trans (hb2.mono HK.out.size))
  clear hb2 p0 p1 p2 p3 p4
  go_wp2_with fail
  go_loopw [21] (fun i wr => ∃ k : Nat, k ≤ 3 ∧ i = .int .i64 k ∧ Below w2.heap.size w2 wr) (fun i _ => 3 - (intOf i).toNat)
  case atStart => exact ⟨0, by omega, rfl, Below.refl _ _⟩
  case round =>
    obtain ⟨k, hk, rfl, hbr⟩ := hrel
    obtain rfl | rfl | rfl | rfl : k = 0 ∨ k = 1 ∨ k = 2 ∨ k = 3 := by omega
    ·
      have g0 := (hbr.cell (p := ⟨Z, 0, none⟩) (by show Z < _; omega)).trans g0
      have g1 := (hbr.cell (p := ⟨Z, 1, none⟩) (by show Z < _; omega)).trans g1
      have g2 := (hbr.cell (p := ⟨Z, 2, none⟩) (by show Z < _; omega)).trans g2
      have g3 := (hbr.cell (p := ⟨Z, 3, none⟩) (by show Z < _; omega)).trans g3
      have sr : Z < wr.heap.size := Nat.lt_of_lt_of_le s2 hbr.size
      have HLr := Lib.hid (HL.out.below hbr)
      have hchk := checkRegion_gr 5 5 100 (.slice L 5 lc) A1 n1 c1 landB l1 wr HLr.out (H1.out.below hbr)
      rw [k1.reg, argE_true] at hchk
      have HQ := Lib.hid hchk
      have hi := index_reg0 A1 A2 none n1 n2 0 c1 c2 0 wr
      have HR := Lib.hid hbr
      clear hchk hbr
      go_wp2_with fail
      refine HQ.out.mono ?_
      rintro e wq ⟨rfl, hq⟩
      have hbx := HR.out
      have HB := Lib.hid (both_c L A1 L lc n1 5 c1 lc l1 landB [] wq (HLr.out.below hq) (H1.out.below (hbx.trans (hq.mono hbx.size))) (HLr.out.below hq) k1.ok k1.one k1.none (by decide))
      have g0 := (hq.cell (p := ⟨Z, 0, none⟩) (by show Z < _; omega)).trans g0
      have g1 := (hq.cell (p := ⟨Z, 1, none⟩) (by show Z < _; omega)).trans g1
      have g2 := (hq.cell (p := ⟨Z, 2, none⟩) (by show Z < _; omega)).trans g2
      have g3 := (hq.cell (p := ⟨Z, 3, none⟩) (by show Z < _; omega)).trans g3
      have HRq := Lib.hid (HR.out.trans (hq.mono HR.out.size))
      clear hq hbx hi
      go_wp2_with fail
      refine HB.out.mono ?_
      rintro e w3 ⟨⟨C, cc, rfl, -⟩, hb3⟩
      have HR3 := HRq.out.trans (hb3.mono HRq.out.size)
      clear hb3 g0 g1 g2 g3
      go_wp2_with fail
      go_roundw
      case rel => exact ⟨1, by omega, rfl, HR3⟩
      case measure => decide
    ·
      have g0 := (hbr.cell (p := ⟨Z, 0, none⟩) (by show Z < _; omega)).trans g0
      have g1 := (hbr.cell (p := ⟨Z, 1, none⟩) (by show Z < _; omega)).trans g1
      have g2 := (hbr.cell (p := ⟨Z, 2, none⟩) (by show Z < _; omega)).trans g2
      have g3 := (hbr.cell (p := ⟨Z, 3, none⟩) (by show Z < _; omega)).trans g3
      have sr : Z < wr.heap.size := Nat.lt_of_lt_of_le s2 hbr.size
      have HLr := Lib.hid (HL.out.below hbr)
      have hchk := checkRegion_gr 5 5 100 (.slice L 5 lc) A2 n2 c2 landB l2 wr HLr.out (H2.out.below hbr)
      rw [k2.reg, argE_true] at hchk
      have HQ := Lib.hid hchk
      have hi := index_reg1 A1 A2 none n1 n2 0 c1 c2 0 wr
      have HR := Lib.hid hbr
      clear hchk hbr
      go_wp2_with fail
      refine HQ.out.mono ?_
      rintro e wq ⟨rfl, hq⟩
      have hbx := HR.out
      have HB := Lib.hid (both_c L A2 L lc n2 5 c2 lc l2 landB [] wq (HLr.out.below hq) (H2.out.below (hbx.trans (hq.mono hbx.size))) (HLr.out.below hq) k2.ok k2.one k2.none (by decide))
      have g0 := (hq.cell (p := ⟨Z, 0, none⟩) (by show Z < _; omega)).trans g0
      have g1 := (hq.cell (p := ⟨Z, 1, none⟩) (by show Z < _; omega)).trans g1
      have g2 := (hq.cell (p := ⟨Z, 2, none⟩) (by show Z < _; omega)).trans g2
      have g3 := (hq.cell (p := ⟨Z, 3, none⟩) (by show Z < _; omega)).trans g3
      have HRq := Lib.hid (HR.out.trans (hq.mono HR.out.size))
      clear hq hbx hi
      go_wp2_with fail
      refine HB.out.mono ?_
      rintro e w3 ⟨⟨C, cc, rfl, -⟩, hb3⟩
      have HR3 := HRq.out.trans (hb3.mono HRq.out.size)
      clear hb3 g0 g1 g2 g3
      go_wp2_with fail
      go_roundw
      case rel => exact ⟨2, by omega, rfl, HR3⟩
      case measure => decide
    ·
      have g0 := (hbr.cell (p := ⟨Z, 0, none⟩) (by show Z < _; omega)).trans g0
      have g1 := (hbr.cell (p := ⟨Z, 1, none⟩) (by show Z < _; omega)).trans g1
      have g2 := (hbr.cell (p := ⟨Z, 2, none⟩) (by show Z < _; omega)).trans g2
      have g3 := (hbr.cell (p := ⟨Z, 3, none⟩) (by show Z < _; omega)).trans g3
      have sr : Z < wr.heap.size := Nat.lt_of_lt_of_le s2 hbr.size
      have HLr := Lib.hid (HL.out.below hbr)
      have hchk := checkRegion_gr 5 5 100 (.slice L 5 lc) none 0 0 landB [] wr HLr.out (Lst.nil _)
      rw [(by decide +kernel : checkRs 5 5 100 landB [[]] = true), argE_true] at hchk
      have HQ := Lib.hid hchk
      have hi := index_reg2 A1 A2 none n1 n2 0 c1 c2 0 wr
      have HR := Lib.hid hbr
      clear hchk hbr
      go_wp2_with fail
      refine HQ.out.mono ?_
      rintro e wq ⟨rfl, hq⟩
      have hbx := HR.out
      have HB := Lib.hid (without_c L none L lc 5 0 lc landB wq (HLr.out.below hq) (Lst.nil _) (HLr.out.below hq) (by decide +kernel))
      have g0 := (hq.cell (p := ⟨Z, 0, none⟩) (by show Z < _; omega)).trans g0
      have g1 := (hq.cell (p := ⟨Z, 1, none⟩) (by show Z < _; omega)).trans g1
      have g2 := (hq.cell (p := ⟨Z, 2, none⟩) (by show Z < _; omega)).trans g2
      have g3 := (hq.cell (p := ⟨Z, 3, none⟩) (by show Z < _; omega)).trans g3
      have HRq := Lib.hid (HR.out.trans (hq.mono HR.out.size))
      clear hq hbx hi
      go_wp2_with fail
      refine HB.out.mono ?_
      rintro e w3 ⟨⟨C, cc, rfl, -⟩, hb3⟩
      have HR3 := HRq.out.trans (hb3.mono HRq.out.size)
      clear hb3 g0 g1 g2 g3
      go_wp2_with fail
      go_roundw
      case rel => exact ⟨3, by omega, rfl, HR3⟩
      case measure => decide
    · have HR := Lib.hid hbr
      clear hbr
      go_wp2_with fail
      go_ret
      exact ⟨rfl, HK.out.trans (HR.out.mono HK.out.size)⟩
end Go.Proofs.Ytnbdnnbeiohmgaa
