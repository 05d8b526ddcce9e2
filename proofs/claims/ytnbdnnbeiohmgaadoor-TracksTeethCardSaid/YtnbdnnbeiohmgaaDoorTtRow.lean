/- TracksTeeth: the row. -/
import Derived.Test.YtnbdnnbeiohmgaaDoorSeat
import Derived.Test.YtnbdnnbeiohmgaaDoorTtLaw
namespace Go.Proofs.YtnbdnnbeiohmgaaDoor
open Go Go.ChangeShapes Go.WideShapes Go.ChangeAt Go.RowKit

section
variable {H : Type} {enc : TypeId × Value → H} {P : Program} {w : World} {base : Nat} {sp : Nat → Bool} {held : Bool}
/-- An array of pairs of numbers, opened. -/
theorem open_pairs {t e u : TypeId} {n fuel : Nat} {cs : List Value} {ds : List (DataW H)} {p : List MemPlace} (ht : P.underlying t = some (.array n e)) (he : P.underlying e = some (.array 2 u)) (hu : P.underlying u = some (.int .i64)) (cu : P.cellsOf u = 1)
    (ce : P.cellsOf e = 2) (h : DataW.trod enc P w base sp held fuel t cs = some (.agg ds, p)) (i : Nat) (hi : i < n) {a b : Int} (hd : ds[i]? = some (.agg [.lit (.int .i64 a), .lit (.int .i64 b)])) :
    cs[i * 2]? = some (.int .i64 a) ∧ cs[i * 2 + 1]? = some (.int .i64 b) := by
  obtain ⟨xs, m, rfl, hx, hl, hxl, hall⟩ := DataW.trod_array ht h
  have h1 := hall i hi
  simp only [Prod.mk.injEq, DataW.agg.injEq] at hx
  rw [hx.1, List.getElem?_map] at hd
  obtain ⟨⟨d, q⟩, hq, hd2⟩ := Option.map_eq_some_iff.1 hd
  simp only at hd2
  subst hd2
  rw [hq, ce] at h1
  obtain ⟨ys, m2, rfl, hy, hl2, hyl, hall2⟩ := DataW.trod_array he h1
  have k0 := hall2 0 (by omega)
  have k1 := hall2 1 (by omega)
  simp only [Prod.mk.injEq, DataW.agg.injEq] at hy
  match ys, hyl with
  | [y0, y1], _ =>
    simp only [List.map_cons, List.map_nil, List.cons.injEq, and_true] at hy
    obtain ⟨⟨e0, e1⟩, -⟩ := hy
    rw [cu] at k0 k1
    simp only [List.getElem?_cons_zero, List.getElem?_cons_succ] at k0 k1
    obtain ⟨z0, c0, j0, -⟩ := DataW.trod_int hu k0
    obtain ⟨z1, c1, j1, -⟩ := DataW.trod_int hu k1
    have f0 := congrArg Prod.fst j0
    have f1 := congrArg Prod.fst j1
    simp only [← e0, ← e1, DataW.lit.injEq, Lit.int.injEq, true_and] at f0 f1
    subst f0 f1
    have g0 := congrArg (·[0]?) c0
    have g1 := congrArg (·[0]?) c1
    simp only [List.getElem?_take, List.getElem?_drop, List.getElem?_cons_zero] at g0 g1
    exact ⟨by simpa using g0, by simpa using g1⟩
end

theorem teeth_laid {W : World} (h : laidMetH Tryd.prog Rows.tracksTeethRow.laid W) : SidesO W ∧ Corners W := by
  have h' : laidMet Tryd.prog Rows.tracksTeethRow.laid W := h
  obtain ⟨ps, hv, -, -⟩ := h'
  obtain ⟨g, t, cs, fuel, p, q, h1, h2, h3, h4, h5, -⟩ := hv
  obtain ⟨g', t', cs', fuel', p', q', h1', h2', h3', h4', h5', -⟩ := h5
  obtain rfl := Option.some.inj ((show Tryd.prog.globalNamed "cresset/tracks.sides" = some 0 by kernel_rfl).symm.trans h1)
  obtain rfl := Option.some.inj ((show Tryd.prog.globalNamed "cresset/tracks.corners" = some 2 by kernel_rfl).symm.trans h1')
  obtain rfl := Option.some.inj ((show (Tryd.prog.globals[0]?).map (·.type) = some 60 by kernel_rfl).symm.trans h2)
  obtain rfl := Option.some.inj ((show (Tryd.prog.globals[2]?).map (·.type) = some 60 by kernel_rfl).symm.trans h2')
  refine ⟨fun i hi => ?_, fun i hi => ?_⟩
  · have k := open_pairs Tryd.underlying60 Tryd.underlying59 Tryd.underlying3 (by kernel_rfl) (by kernel_rfl) h4 i hi (a := (dirO i).1) (b := (dirO i).2) (by
      match i, hi with
      | 0, _ => rfl
      | 1, _ => rfl
      | 2, _ => rfl
      | 3, _ => rfl)
    rw [World.var?_cell h1 h3, World.var?_cell h1 h3]
    simpa using k
  · have k := open_pairs Tryd.underlying60 Tryd.underlying59 Tryd.underlying3 (by kernel_rfl) (by kernel_rfl) h4' i hi (a := (corO i).1) (b := (corO i).2) (by
      match i, hi with
      | 0, _ => rfl
      | 1, _ => rfl
      | 2, _ => rfl
      | 3, _ => rfl)
    rw [World.var?_cell h1' h3', World.var?_cell h1' h3']
    simpa using k

theorem teeth_door (os : Os) (args : Array Value) : laidMetH Tryd.prog Rows.tracksTeethRow.laid ((World.doorLaid Tryd.prog 600 os).forCall (fun _ _ => 0) ⟨#[], args, []⟩).memory :=
  laidMetH_of_parts3 (fuel := 8) (laidMet_of_run' 8 (by kernel_rfl) (by kernel_rfl)) (by kernel_rfl) (by kernel_rfl)

set_option maxRecDepth 100000 in
set_option maxHeartbeats 1000000 in
theorem teeth_lifted (os : Os) (started : os.Started) (H : Type) (enc : TypeId × Value → H) :
    ReturnsInHanded {} Tryd.checked os 4 .any (fun w args => (Rows.tracksTeethSpec.pre enc Tryd.prog Tryd.f4 [] false w args ∧ laidMetH Tryd.prog Rows.tracksTeethRow.laid w) ∧ sizedMet enc Tryd.prog Tryd.f4 (OpenSpec.ofChange Rows.tracksTeethSpec) false w args)
      (Rows.tracksTeethSpec.post enc Tryd.prog Tryd.f4 false true false false) := by
  refine returnsInHanded_of_change_and (C := Tryd.checked) (X := fun w _ => laidMetH Tryd.prog Rows.tracksTeethRow.laid w) (fun _ _ _ hh h => h.of_heap hh) ownK started (by kernel_rfl) Tryd.func4
    (ChangeSpec.witness_shaped (enc := enc) (C := Tryd.checked) (os := os) (X := fun w _ => laidMetH Tryd.prog Rows.tracksTeethRow.laid w) false (World.doorLaid Tryd.prog 600 os) #[.int .u8 0, .int .u8 0, .int .u8 0] 8 rfl (World.shaped_of_RefB (by kernel_rfl) (by kernel_rfl)) (by kernel_rfl) (by kernel_rfl) (by kernel_rfl) (teeth_door os _)) ?_
  intro W base args ds gs before hval0 hW _ _ hL _
  have hval : ∀ (j : Nat) t v, Tryd.f4.params[j]? = some t → args[j]? = some v → Value.okWide Tryd.prog W .any base t v := hval0
  have hW' := hW
  obtain ⟨p, q, hA0, hV, rfl, hfz, hnd⟩ := hW
  have hA : DataW.TrodAll enc Tryd.prog W 0 (fun _ => true) true Tryd.f4.params.toList args.toList ds p := hA0
  rw [Tryd.params4] at hA hval
  obtain ⟨v0, vs, d0, ds0, p0, q0, ea, rfl, rfl, -, hA⟩ := trodAll_cons hA
  obtain ⟨v1, vs, d1, ds1, p1, q1, rfl, rfl, rfl, -, hA⟩ := trodAll_cons hA
  obtain ⟨v2, vs, d2, ds2, p2, q2, rfl, rfl, rfl, -, hA⟩ := trodAll_cons hA
  obtain ⟨rfl, rfl, rfl⟩ := trodAll_nil hA
  obtain rfl : args = #[v0, v1, v2] := by cases args; simp_all
  obtain ⟨x, rfl, wx⟩ := okWide_intw Tryd.underlying5 (hval 0 _ v0 rfl rfl)
  obtain ⟨y, rfl, wy⟩ := okWide_intw Tryd.underlying5 (hval 1 _ v1 rfl rfl)
  obtain ⟨z, rfl, wz⟩ := okWide_intw Tryd.underlying5 (hval 2 _ v2 rfl rfl)
  obtain ⟨x, rfl, hx⟩ := wf_u8 wx
  obtain ⟨y, rfl, hy⟩ := wf_u8 wy
  obtain ⟨z, rfl, hz⟩ := wf_u8 wz
  obtain ⟨hs, hc⟩ := teeth_laid hL
  refine (teeth_tk x y z W hx hy hz hs hc).mono ?_
  rintro e W' ⟨rfl, hbel⟩
  exact ⟨_, rfl, law_post laidOut hW' rfl (by intro t ht; rw [Tryd.params4] at ht; revert t; decide +kernel) rfl rfl rfl (by kernel_rfl) Tryd.underlying4 hbel⟩

theorem teeth_holds : Rows.TracksTeethSaid :=
  OpenClaim.holds_of_wide 4 Tryd.f4 rfl rfl rfl rfl rfl rfl rfl ⟨rfl, rfl, rfl, rfl, rfl⟩ rfl rfl rfl rfl rfl (by kernel_rfl) Tryd.func4 (by kernel_rfl)
    (of_decide_eq_true (by kernel_rfl)) (by unfold Func.isWrapper; first | (rw [if_pos (by decide +kernel)]; kernel_rfl) | (rw [if_neg (by decide +kernel)]; exact ⟨rfl, rfl⟩))
    (fun os started H enc _ => teeth_lifted os started H enc)
end Go.Proofs.YtnbdnnbeiohmgaaDoor
