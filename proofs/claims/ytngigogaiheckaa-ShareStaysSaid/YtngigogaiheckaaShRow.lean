/- Arguments of the laws on share, opened: a statement, a list of turns of talk, a list of numbers. -/
import Derived.Test.YtngigogaiheckaaSeat
import Derived.Test.YtngigogaiheckaaShTalk
import Derived.Deep.Slices
import Derived.Deep.Strs
namespace Go.Proofs.Ytngigogaiheckaa
open Go Go.ChangeShapes Go.WideShapes Go.ChangeAt Go.RowKit Go.Deep

theorem list5 {α : Type} {l : List α} (h : l.length = 5) : ∃ a b c d e, l = [a, b, c, d, e] := by
  match l, h with
  | [a, b, c, d, e], _ => exact ⟨a, b, c, d, e, rfl⟩
theorem list7 {α : Type} {l : List α} (h : l.length = 7) : ∃ a b c d e f g, l = [a, b, c, d, e, f, g] := by
  match l, h with
  | [a, b, c, d, e, f, g], _ => exact ⟨a, b, c, d, e, f, g, rfl⟩
theorem list11 {α : Type} {l : List α} (h : l.length = 11) : ∃ a b c d e f g i j k m, l = [a, b, c, d, e, f, g, i, j, k, m] := by
  match l, h with
  | [a, b, c, d, e, f, g, i, j, k, m], _ => exact ⟨a, b, c, d, e, f, g, i, j, k, m, rfl⟩
theorem lt_of_cell {w : World} {a : Addr} {v : Value} (h : w.cell? a = some v) : a.block < w.heap.size := by
  unfold World.cell? at h
  split at h
  · rename_i e
    exact (Array.getElem?_eq_some_iff.1 e).1
  · simp at h

section
variable {H : Type} {enc : TypeId × Value → H} {w : World} {held : Bool}
theorem said_in {base fuel : Nat} {sp : Nat → Bool} {cs : List Value} {x : DataW H × List MemPlace} (h : DataW.trod enc Try.prog w base sp held fuel 38 cs = some x) : ∃ s : Sd, cs = encSd s := by
  obtain ⟨xs, n, -, -, hl, hlen, hfs⟩ := DataW.trod_struct Try.underlying38 h
  have hc1 : Try.prog.cellsOf 3 = 1 := by kernel_rfl
  have hc2 : Try.prog.cellsOf 9 = 1 := by kernel_rfl
  have hc7 : Try.prog.cellsOf 38 = 7 := by kernel_rfl
  obtain ⟨y0, y1, y2, y3, y4, y5, y6, rfl⟩ := list7 (l := xs) (by rw [hlen]; rfl)
  obtain ⟨c0, c1, c2, c3, c4, c5, c6, rfl⟩ := list7 (hl.trans hc7)
  have t0 := hfs 0 _ rfl
  have t1 := hfs 1 _ rfl
  have t2 := hfs 2 _ rfl
  have t3 := hfs 3 _ rfl
  have t4 := hfs 4 _ rfl
  have t5 := hfs 5 _ rfl
  have t6 := hfs 6 _ rfl
  simp [hc1, hc2] at t0 t1 t2 t3 t4 t5 t6
  obtain ⟨z0, e0, -⟩ := DataW.trod_int Try.underlying3 t0
  obtain ⟨z1, e1, -⟩ := DataW.trod_int Try.underlying3 t1
  obtain ⟨z2, e2, -⟩ := DataW.trod_string Try.underlying9 t2
  obtain ⟨z3, e3, -⟩ := DataW.trod_string Try.underlying9 t3
  obtain ⟨z4, e4, -⟩ := DataW.trod_int Try.underlying3 t4
  obtain ⟨z5, e5, -⟩ := DataW.trod_int Try.underlying3 t5
  obtain ⟨z6, e6, -⟩ := DataW.trod_int Try.underlying3 t6
  simp only [List.cons.injEq, and_true] at e0 e1 e2 e3 e4 e5 e6
  subst e0 e1 e2 e3 e4 e5 e6
  exact ⟨⟨z0, z1, z2, z3, z4, z5, z6⟩, rfl⟩
theorem u8_in {base fuel : Nat} {sp : Nat → Bool} {u : TypeId} {c : Value} {x : DataW H × List MemPlace} (hu : Try.prog.underlying u = some (.int .u8)) (h : DataW.trod enc Try.prog w base sp held fuel u [c] = some x) : ∃ n : Nat, c = .int .u8 n ∧ n < 256 := by
  obtain ⟨z, e, -, hw⟩ := DataW.trod_int hu h
  obtain ⟨m, rfl, hm⟩ := wf_u8 hw
  simp only [List.cons.injEq, and_true] at e
  exact ⟨m, e, hm⟩
theorem talk_in {base fuel : Nat} {sp : Nat → Bool} {cs : List Value} {x : DataW H × List MemPlace} (h : DataW.trod enc Try.prog w base sp held fuel 58 cs = some x) : ∃ t : Tk, cs = encT t ∧ (t.who < 256 ∧ t.frm < 256 ∧ t.many < 256) := by
  obtain ⟨xs, n, -, -, hl, hlen, hfs⟩ := DataW.trod_struct Try.underlying58 h
  have hc1 : Try.prog.cellsOf 5 = 1 := by kernel_rfl
  have hc2 : Try.prog.cellsOf 4 = 1 := by kernel_rfl
  have hc7 : Try.prog.cellsOf 38 = 7 := by kernel_rfl
  have hc11 : Try.prog.cellsOf 58 = 11 := by kernel_rfl
  obtain ⟨y0, y1, y2, y3, y4, rfl⟩ := list5 (l := xs) (by rw [hlen]; rfl)
  obtain ⟨c0, c1, c2, c3, c4, c5, c6, c7, c8, c9, c10, rfl⟩ := list11 (hl.trans hc11)
  have t0 := hfs 0 _ rfl
  have t1 := hfs 1 _ rfl
  have t2 := hfs 2 _ rfl
  have t3 := hfs 3 _ rfl
  have t4 := hfs 4 _ rfl
  simp [hc1, hc2, hc7] at t0 t1 t2 t3 t4
  obtain ⟨z0, rfl, b0⟩ := u8_in Try.underlying5 t0
  obtain ⟨z1, rfl, b1⟩ := u8_in Try.underlying5 t1
  obtain ⟨z2, rfl, b2⟩ := u8_in Try.underlying5 t2
  obtain ⟨z3, e3, -⟩ := DataW.trod_bool Try.underlying4 t3
  obtain ⟨s, e4⟩ := said_in t4
  simp only [List.cons.injEq, and_true] at e3
  subst e3
  refine ⟨⟨z0, z1, z2, z3, s⟩, ?_, b0, b1, b2⟩
  show _ = [Value.int .u8 z0, .int .u8 z1, .int .u8 z2, .bool z3] ++ encSd s
  rw [← e4]
  rfl
theorem open_list {α : Type} {t e : TypeId} {k : Nat} (k0 : 0 < k) {en : α → List Value} (hk : ∀ x, (en x).length = k) {p : α → Prop} (ht : Try.prog.underlying t = some (.slice e)) (hc : Try.prog.cellsOf e = k) {fuel : Nat}
    (hin : ∀ n cs x, DataW.trod enc Try.prog w 0 (fun _ => true) held n e cs = some x → ∃ a, cs = en a ∧ p a) {v : Value} {x : DataW H × List MemPlace} (h : DataW.trod enc Try.prog w 0 (fun _ => true) held fuel t [v] = some x) : ∃ l, Lst k en w v l ∧ ∀ a, a ∈ l → p a := by
  rcases open_slice ht h with ⟨hcs, -⟩ | ⟨a, len, cap, m, n, D, Pl, hcs, -, hl, hm, hmm, -, hx⟩
  · simp only [List.cons.injEq, and_true] at hcs
    subst hcs
    exact ⟨[], Lst.nil _, fun a ha => by cases ha⟩
  · simp only [List.cons.injEq, and_true] at hcs
    subst hcs
    simp only [if_true] at hmm
    subst hmm
    have key : ∀ i, i < len → ∃ r : α, p r ∧ ∀ j u, (en r)[j]? = some u → w.cell? (a.add (i * k + j)) = some u := by
      intro i hi
      obtain ⟨cs', h1, h2⟩ := hx i (by omega)
      obtain ⟨r, rfl, hr⟩ := hin _ _ _ h2
      rw [hc] at h1
      obtain ⟨-, -, h3⟩ := World.cells?_some h1
      refine ⟨r, hr, fun j u hu => ?_⟩
      have hj : j < k := by
        have := (List.getElem?_eq_some_iff.1 hu).1
        rw [hk] at this
        exact this
      have := h3 j hj
      rw [Deep.add_add] at this
      exact this.trans hu
    by_cases h0 : len = 0
    · subst h0
      refine ⟨[], ⟨some a, _, rfl, by simp, hm, fun h => by simp at h⟩, fun a ha => by cases ha⟩
    · obtain ⟨r0, -⟩ := key 0 (by omega)
      obtain ⟨f, hf⟩ : ∃ f : Nat → α, ∀ i, i < len → p (f i) ∧ ∀ j u, (en (f i))[j]? = some u → w.cell? (a.add (i * k + j)) = some u :=
        ⟨fun i => if h : i < len then Classical.choose (key i h) else r0, fun i hi => by
          simp only [dif_pos hi]
          exact Classical.choose_spec (key i hi)⟩
      refine ⟨(List.range len).map f, ⟨some a, _, by simp, by simpa using hl, hm, fun h0 => ?_⟩, fun s hs => ?_⟩
      · have h0' : 0 < len := by simpa using h0
        obtain ⟨b, off, spot⟩ := a
        obtain ⟨u, hu⟩ : ∃ u, (en (f 0))[0]? = some u := ⟨_, List.getElem?_eq_getElem (by rw [hk]; exact k0)⟩
        have h1 := (hf 0 h0').2 0 u hu
        have hs : spot = none := by
          cases spot with
          | none => rfl
          | some s =>
            unfold World.cell? at h1
            simp [Addr.add] at h1
            split at h1 <;> simp at h1
        subst hs
        have hb : b < w.heap.size := by
          rw [add_plain] at h1
          exact lt_of_cell h1
        refine ⟨b, off, rfl, hb, fun j i r u hj hu => ?_⟩
        rw [List.getElem?_map] at hj
        obtain ⟨j', hj', rfl⟩ := Option.map_eq_some_iff.1 hj
        obtain ⟨hjl, rfl⟩ := List.getElem?_eq_some_iff.1 hj'
        have hj2 : j < len := by simpa using hjl
        have := (hf j hj2).2 i u (by simpa using hu)
        rwa [add_plain, ← Nat.add_assoc] at this
      · obtain ⟨j, hj, rfl⟩ := List.mem_map.1 hs
        exact (hf j (List.mem_range.1 hj)).1
set_option maxRecDepth 100000 in
theorem open_talks {v : Value} {d : DataW H} {q : List MemPlace} {r : Reach} {b : Nat} (h : DataW.Trod enc Try.prog w 0 (fun _ => true) held 22 v d q) (hok : Value.okWide Try.prog w r b 22 v) :
    ∃ l, Lst 11 encT w v l ∧ ∀ t, t ∈ l → t.who < 256 ∧ t.frm < 256 ∧ t.many < 256 := by
  obtain ⟨a, len, cap, rfl⟩ := okWide_slice Try.underlying22 hok
  obtain ⟨fuel, hf⟩ := h
  exact open_list (by omega) encT_len Try.underlying22 (by kernel_rfl) (fun n cs x h => talk_in h) hf
set_option maxRecDepth 100000 in
theorem open_ns {v : Value} {d : DataW H} {q : List MemPlace} {r : Reach} {b : Nat} (h : DataW.Trod enc Try.prog w 0 (fun _ => true) held 29 v d q) (hok : Value.okWide Try.prog w r b 29 v) :
    ∃ l, Lst 1 encI w v l ∧ ∀ t, t ∈ l → -9223372036854775808 ≤ t ∧ t ≤ 9223372036854775807 := by
  obtain ⟨a, len, cap, rfl⟩ := okWide_slice Try.underlying29 hok
  obtain ⟨fuel, hf⟩ := h
  exact open_list (by omega) encI_len Try.underlying29 (by kernel_rfl) (fun n cs x h => by
    obtain ⟨z, e, -, hw⟩ := DataW.trod_int Try.underlying3 h
    exact ⟨z, e, wf_i64 hw⟩) hf
set_option maxRecDepth 100000 in
theorem open_said {v : Value} {d : DataW H} {q : List MemPlace} {r : Reach} {b : Nat} (h : DataW.Trod enc Try.prog w 0 (fun _ => true) held 38 v d q) (hok : Value.okWide Try.prog w r b 38 v) : ∃ s, v = valSd s := by
  obtain ⟨cs, rfl, hz, -⟩ := okWide_row (.inl ⟨_, Try.underlying38⟩) hok (ts := [3, 3, 9, 9, 3, 3, 3]) (by kernel_rfl)
  obtain ⟨fuel, hf⟩ := h
  obtain ⟨s, hs⟩ := said_in hf
  refine ⟨s, ?_⟩
  obtain ⟨cs⟩ := cs
  simp [Value.cells] at hs
  subst hs
  rfl
end
end Go.Proofs.Ytngigogaiheckaa
