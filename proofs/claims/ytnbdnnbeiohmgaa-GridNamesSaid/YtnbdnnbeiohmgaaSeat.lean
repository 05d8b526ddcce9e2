/- What each row of this seat shares: what lies in an argument; what is claimed of a call that leaves all as it was. -/
import Derived.Test.YtnbdnnbeiohmgaaRows
import Derived.ProofKit
import Derived.Carry
import Derived.OpenShut
import Derived.Lib.SmallJoins
import Derived.LaidMore
import Derived.Stop.Joined
namespace Go.Proofs.Ytnbdnnbeiohmgaa
open Go Go.ChangeShapes Go.WideShapes Go.ChangeAt Go.RowKit

theorem laidOut : laidOutB Try.prog = true := by kernel_rfl
theorem ownK : ownKnob Try.prog.godebug = none := by kernel_rfl

section
variable {H : Type} {enc : TypeId × Value → H} {P : Program}

theorem trodAll_stays (hl : laidOutB P = true) {W W' : World} (hb : Below W.heap.size W W') : ∀ {ts : List TypeId} {vs : List Value} {ds : List (DataW H)} {ps : List MemPlace},
    (∀ t ∈ ts, P.readableRec t = true ∧ t < P.types.size) → DataW.TrodAll enc P W 0 (fun _ => true) true ts vs ds ps → (∀ x ∈ ps, x.block < W.heap.size) →
    DataW.TrodAll enc P W' 0 (fun b => decide (b < W.heap.size)) true ts vs ds ps
  | [], _, _, _, _, h, _ => by
    obtain ⟨rfl, rfl, rfl⟩ := trodAll_nil h
    rfl
  | t :: ts, _, _, _, hts, h, hlt => by
    obtain ⟨v, vs, d, ds, p, q, rfl, rfl, rfl, hd, hr⟩ := trodAll_cons h
    exact ⟨p, q, Below.trod hl (hts t (by simp)).1 (hts t (by simp)).2 hd hb (fun x hx => hlt x (List.mem_append.2 (.inl hx))),
      trodAll_stays hl hb (fun t ht => hts t (by simp [ht])) hr (fun x hx => hlt x (List.mem_append.2 (.inr hx))), rfl⟩

/-- A law that answers true and leaves all as it was. -/
theorem law_post {f : Func} {s : ChangeSpec} {apart fresh handsOn : Bool} {W W' : World} {args : Array Value} {ds gs : List (DataW H)} {before : List MemPlace}
    (hl : laidOutB P = true) (hW : DataW.Whole enc P f.params.toList s.vars apart W args.toList ds gs before) (hv : s.vars = [])
    (hts : ∀ t ∈ f.params.toList, P.readableRec t = true ∧ t < P.types.size) (hr : (s.fn H ds).results = [.lit (.bool true)]) (ha : (s.fn H ds).args = ds) (hvr : (s.fn H ds).vars = [])
    {tb : TypeId} (hres : f.resultTypes = #[tb]) (ub : P.underlying tb = some .bool) (hb : Below W.heap.size W W') : s.post enc P f apart fresh handsOn false W args (.bool true) W' := by
  have hW' := hW
  obtain ⟨p, q, hA, hV, rfl, -, -⟩ := hW
  rw [hv] at hV
  obtain ⟨rfl, rfl⟩ := trodVars_none hV
  have hlt : ∀ x ∈ p ++ [], x.block < W.heap.size := fun x hx => by simpa using hW'.lt x hx
  refine ⟨ds, [], p ++ [], [], p, [], hW', ?_, ?_, ?_, hb.frame _, fun h => by cases h⟩
  · rw [List.append_nil, hr, hres]
    exact trodAll_mk1 (shut_bool ub true)
  · rw [List.append_nil, ha]
    exact trodAll_stays hl hb hts hA (fun x hx => hlt x (by simpa using hx))
  · rw [List.append_nil, hv, hvr]
    rfl
end

section
variable {P : Program} {w : World} {r : Reach} {b : Nat}

theorem okWide_row {t : TypeId} {v : Value} (hs : (∃ fs, P.underlying t = some (.struct fs)) ∨ ∃ n e, P.underlying t = some (.array n e)) (h : Value.okWide P w r b t v) {ts : List TypeId} (hts : P.cellTypes P.depth t = some ts) :
    ∃ cs, v = .agg cs ∧ cs.size = P.cellsOf t ∧ ∀ (i : Nat) v, cs[i]? = some v → ∃ u, ts[i % ts.length]? = some u ∧ Cell.okWide P w r b u v := by
  have h' : ∃ cs, v = .agg cs ∧ cs.size = P.cellsOf t ∧ Row.okWide P w r b t cs := by
    unfold Value.okWide at h
    rcases hs with ⟨fs, e⟩ | ⟨n, e', e⟩ <;> simpa [e] using h
  obtain ⟨cs, rfl, hz, ts', h1, -, h3⟩ := h'
  obtain rfl := Option.some.inj (hts.symm.trans h1)
  exact ⟨cs, rfl, hz, h3⟩

theorem okWide_int_cell {t : TypeId} {k : IntKind} {v : Value} (ht : P.underlying t = some (.int k)) (h : Cell.okWide P w r b t v) : ∃ n, v = .int k n ∧ (Lit.int k n).wf = true := by
  unfold Cell.okWide at h
  rw [ht] at h
  have h2 : Cell.ok P w r b t v := by cases v <;> exact h
  unfold Cell.ok at h2
  rw [ht] at h2
  cases v <;> first | (simp at h2; done) | skip
  case int k' n =>
    simp only [Lit.wf, Bool.and_eq_true, decide_eq_true_eq, IntKind.has] at h2 ⊢
    obtain ⟨e, h3⟩ := h2
    subst e
    exact ⟨n, rfl, h3⟩

theorem okWide_intw {t : TypeId} {k : IntKind} {v : Value} (ht : P.underlying t = some (.int k)) (h : Value.okWide P w r b t v) : ∃ n, v = .int k n ∧ (Lit.int k n).wf = true :=
  okWide_int_cell ht (by simpa [Value.okWide, ht] using h)

theorem okWide_ints2 {t u : TypeId} {k : IntKind} {v : Value} (hs : (∃ fs, P.underlying t = some (.struct fs)) ∨ ∃ n e, P.underlying t = some (.array n e)) (hC : P.cellsOf t = 2) (hts : P.cellTypes P.depth t = some [u, u]) (hu : P.underlying u = some (.int k))
    (h : Value.okWide P w r b t v) : ∃ x y, v = .agg #[.int k x, .int k y] ∧ (Lit.int k x).wf = true ∧ (Lit.int k y).wf = true := by
  obtain ⟨cs, rfl, hz, hf⟩ := okWide_row hs h hts
  obtain ⟨c0, c1, rfl⟩ := Go.Joins.array2 (hz.trans hC)
  obtain ⟨u0, e0, h0⟩ := hf 0 c0 rfl
  obtain ⟨u1, e1, h1⟩ := hf 1 c1 rfl
  obtain rfl : u = u0 := by simpa using e0
  obtain rfl : u = u1 := by simpa using e1
  obtain ⟨x, rfl, wx⟩ := okWide_int_cell hu h0
  obtain ⟨y, rfl, wy⟩ := okWide_int_cell hu h1
  exact ⟨x, y, rfl, wx, wy⟩
end

theorem wf_i64 {n : Int} (h : (Lit.int .i64 n).wf = true) : -9223372036854775808 ≤ n ∧ n ≤ 9223372036854775807 := by
  simp [Lit.wf, IntKind.min, IntKind.max, IntKind.signed, IntKind.bits] at h
  omega
theorem wf_u8 {n : Int} (h : (Lit.int .u8 n).wf = true) : ∃ m : Nat, n = m ∧ m < 256 := by
  simp [Lit.wf, IntKind.min, IntKind.max, IntKind.signed, IntKind.bits] at h
  exact ⟨n.toNat, by omega, by omega⟩
theorem wf_u32 {n : Int} (h : (Lit.int .u32 n).wf = true) : ∃ m : Nat, n = m ∧ m < 4294967296 := by
  simp [Lit.wf, IntKind.min, IntKind.max, IntKind.signed, IntKind.bits] at h
  exact ⟨n.toNat, by omega, by omega⟩
end Go.Proofs.Ytnbdnnbeiohmgaa
