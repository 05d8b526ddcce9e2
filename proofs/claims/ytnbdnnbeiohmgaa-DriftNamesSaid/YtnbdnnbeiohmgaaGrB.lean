/- Spans in order, merged: plain facts, no program in sight. -/
import Derived.WalkKit
import Derived.Deep.RegionHeld3
import Derived.Shelf.SlSortCmp.NoneTotal
import Derived.Test.YtnbdnnbeiohmgaaGrA
namespace Go.Proofs.Ytnbdnnbeiohmgaa

abbrev S2 := Int × Int
def joinTo (out : List S2) (x : S2) : List S2 :=
  match out.getLast? with
  | some a => if x.1 ≤ a.2 then out.dropLast ++ [(a.1, max a.2 x.2)] else out ++ [x]
  | none => [x]
def mergeL (l : List S2) : List S2 := l.foldl joinTo []
theorem mergeL_snoc (l : List S2) (x : S2) : mergeL (l ++ [x]) = joinTo (mergeL l) x := by simp [mergeL]
theorem joinTo_nil (x : S2) : joinTo [] x = [x] := rfl
theorem joinTo_in {o : List S2} {a x : S2} (h : x.1 ≤ a.2) : joinTo (o ++ [a]) x = o ++ [(a.1, max a.2 x.2)] := by simp [joinTo, h]
theorem joinTo_out {o : List S2} {a x : S2} (h : a.2 < x.1) : joinTo (o ++ [a]) x = o ++ [a] ++ [x] := by
  have : ¬ x.1 ≤ a.2 := by omega
  simp [joinTo, this]
theorem joinTo_length (o : List S2) (x : S2) : (joinTo o x).length ≤ o.length + 1 := by
  rcases List.eq_nil_or_concat o with rfl | ⟨o, a, rfl⟩
  · simp [joinTo_nil]
  · rw [List.concat_eq_append]
    by_cases h : x.1 ≤ a.2
    · rw [joinTo_in h]; simp
    · rw [joinTo_out (by omega)]; simp
theorem mergeL_length (l : List S2) : (mergeL l).length ≤ l.length := by
  have h : ∀ (l : List S2) (o : List S2), (l.foldl joinTo o).length ≤ o.length + l.length := by
    intro l
    induction l with
    | nil => intro o; simp
    | cons x l ih =>
      intro o
      have h1 := ih (joinTo o x)
      have h2 := joinTo_length o x
      simp only [List.foldl_cons, List.length_cons]
      omega
  simpa [mergeL] using h l []

def inS (x : Int) (l : List S2) : Prop := ∃ s, s ∈ l ∧ s.1 ≤ x ∧ x < s.2
theorem inS_append {x : Int} {l m : List S2} : inS x (l ++ m) ↔ inS x l ∨ inS x m := by
  simp only [inS, List.mem_append]
  constructor
  · rintro ⟨s, h | h, r⟩
    · exact .inl ⟨s, h, r⟩
    · exact .inr ⟨s, h, r⟩
  · rintro (⟨s, h, r⟩ | ⟨s, h, r⟩)
    · exact ⟨s, .inl h, r⟩
    · exact ⟨s, .inr h, r⟩
theorem inS_one {x : Int} {s : S2} : inS x [s] ↔ s.1 ≤ x ∧ x < s.2 := by simp [inS]

/-- apart, in order, none empty -/
def Sep (m : List S2) : Prop := m.Pairwise (fun a b => a.2 < b.1) ∧ ∀ s, s ∈ m → s.1 < s.2

theorem joinTo_spec {o : List S2} {x : S2} (ho : Sep o) (hx : x.1 < x.2) (hle : ∀ s, s ∈ o → s.1 ≤ x.1) :
    Sep (joinTo o x) ∧ (∀ z, inS z (joinTo o x) ↔ inS z o ∨ (x.1 ≤ z ∧ z < x.2)) ∧
    (∀ s, s ∈ joinTo o x → (s.1 = x.1 ∨ ∃ a, a ∈ o ∧ a.1 = s.1) ∧ (s.2 = x.2 ∨ ∃ a, a ∈ o ∧ a.2 = s.2)) := by
  rcases List.eq_nil_or_concat o with rfl | ⟨o, a, rfl⟩
  · rw [joinTo_nil]
    refine ⟨⟨List.pairwise_singleton _ _, by simpa using hx⟩, fun z => ?_, fun s hs => ?_⟩
    · rw [inS_one]
      simp [inS]
    · simp at hs
      subst hs
      exact ⟨.inl rfl, .inl rfl⟩
  · rw [List.concat_eq_append] at ho hle ⊢
    have ha : a.1 < a.2 := ho.2 a (by simp)
    have hax : a.1 ≤ x.1 := hle a (by simp)
    obtain ⟨hp, hq⟩ := ho
    have hp' := List.pairwise_append.1 hp
    have ho1 : ∀ s, s ∈ o → s.2 < a.1 := fun s hs => hp'.2.2 s hs a (by simp)
    by_cases h : x.1 ≤ a.2
    · rw [joinTo_in h]
      refine ⟨⟨List.pairwise_append.2 ⟨hp'.1, List.pairwise_singleton _ _, ?_⟩, ?_⟩, fun z => ?_, fun s hs => ?_⟩
      · intro s hs b hb
        simp at hb
        subst hb
        exact ho1 s hs
      · intro s hs
        rcases List.mem_append.1 hs with hs | hs
        · exact hq s (by simp [hs])
        · simp at hs; subst hs; simp only; omega
      · rw [inS_append, inS_one, inS_append, inS_one]
        simp only
        constructor
        · rintro (h1 | ⟨h1, h2⟩)
          · exact .inl (.inl h1)
          · by_cases hz : z < a.2
            · exact .inl (.inr ⟨h1, hz⟩)
            · exact .inr ⟨by omega, by omega⟩
        · rintro ((h1 | ⟨h1, h2⟩) | ⟨h1, h2⟩)
          · exact .inl h1
          · exact .inr ⟨h1, by omega⟩
          · exact .inr ⟨by omega, by omega⟩
      · rcases List.mem_append.1 hs with hs | hs
        · exact ⟨.inr ⟨s, by simp [hs], rfl⟩, .inr ⟨s, by simp [hs], rfl⟩⟩
        · simp at hs
          subst hs
          refine ⟨.inr ⟨a, by simp, rfl⟩, ?_⟩
          by_cases hm : a.2 ≤ x.2
          · exact .inl (by simp only; omega)
          · exact .inr ⟨a, by simp, by simp only; omega⟩
    · rw [joinTo_out (by omega)]
      refine ⟨⟨List.pairwise_append.2 ⟨hp, List.pairwise_singleton _ _, ?_⟩, ?_⟩, fun z => ?_, fun s hs => ?_⟩
      · intro s hs b hb
        simp at hb
        subst hb
        rcases List.mem_append.1 hs with hs | hs
        · have := ho1 s hs; omega
        · simp at hs; subst hs; omega
      · intro s hs
        rcases List.mem_append.1 hs with hs | hs
        · exact hq s hs
        · simp at hs; subst hs; exact hx
      · rw [inS_append, inS_one]
      · rcases List.mem_append.1 hs with hs | hs
        · exact ⟨.inr ⟨s, hs, rfl⟩, .inr ⟨s, hs, rfl⟩⟩
        · simp at hs
          subst hs
          exact ⟨.inl rfl, .inl rfl⟩

theorem mergeL_spec : ∀ {l : List S2}, l.Pairwise (fun a b => a.1 ≤ b.1) → (∀ s, s ∈ l → s.1 < s.2) →
    Sep (mergeL l) ∧ (∀ z, inS z (mergeL l) ↔ inS z l) ∧ (∀ s, s ∈ mergeL l → (∃ a, a ∈ l ∧ a.1 = s.1) ∧ ∃ a, a ∈ l ∧ a.2 = s.2) := by
  intro l
  induction h : l.length generalizing l with
  | zero =>
    have : l = [] := List.eq_nil_of_length_eq_zero h
    subst this
    intro _ _
    exact ⟨⟨List.Pairwise.nil, fun s hs => by simp [mergeL] at hs⟩, fun z => Iff.rfl, fun s hs => by simp [mergeL] at hs⟩
  | succ n ih =>
    intro hs hn
    rcases List.eq_nil_or_concat l with rfl | ⟨o, x, rfl⟩
    · simp at h
    · rw [List.concat_eq_append] at h hs hn ⊢
      have hs' := List.pairwise_append.1 hs
      obtain ⟨i1, i2, i3⟩ := ih (l := o) (by simpa using h) hs'.1 (fun s hm => hn s (by simp [hm]))
      obtain ⟨j1, j2, j3⟩ := joinTo_spec (o := mergeL o) (x := x) i1 (hn x (by simp)) (fun s hm => by
        obtain ⟨⟨a, ha, e⟩, -⟩ := i3 s hm
        rw [← e]
        exact hs'.2.2 a ha x (by simp))
      rw [mergeL_snoc]
      refine ⟨j1, fun z => ?_, fun s hm => ?_⟩
      · rw [j2, i2, inS_append, inS_one]
      · obtain ⟨k1, k2⟩ := j3 s hm
        constructor
        · rcases k1 with e | ⟨a, ha, e⟩
          · exact ⟨x, by simp, e.symm⟩
          · obtain ⟨⟨a', ha', e'⟩, -⟩ := i3 a ha
            exact ⟨a', by simp [ha'], e'.trans e⟩
        · rcases k2 with e | ⟨a, ha, e⟩
          · exact ⟨x, by simp, e.symm⟩
          · obtain ⟨-, a', ha', e'⟩ := i3 a ha
            exact ⟨a', by simp [ha'], e'.trans e⟩

/-- spans that lie apart within so many cells are no more than those -/
theorem Sep_length : ∀ {m : List S2} {lo hi : Int}, Sep m → (∀ s, s ∈ m → lo ≤ s.1 ∧ s.2 ≤ hi) → lo ≤ hi → (m.length : Int) ≤ hi - lo
  | [], lo, hi, _, _, h => by simp; omega
  | s :: m, lo, hi, hs, hb, h => by
    obtain ⟨h1, h2⟩ := hb s (by simp)
    have h3 := hs.2 s (by simp)
    have hp := List.pairwise_cons.1 hs.1
    have := Sep_length (m := m) (lo := s.2) (hi := hi) ⟨hp.2, fun a ha => hs.2 a (by simp [ha])⟩ (fun a ha => ⟨by have := hp.1 a ha; omega, (hb a (by simp [ha])).2⟩) h2
    simp only [List.length_cons]
    omega
end Go.Proofs.Ytnbdnnbeiohmgaa
/- The closures of table.region. -/
namespace Go.Proofs.Ytnbdnnbeiohmgaa
open Go.RowKit Go.Shelf Go.Sort

theorem cmp_gr (a b c d : Int) (W : World) : Calls Try.prog 106 #[.agg #[.int .i64 a, .int .i64 b], .agg #[.int .i64 c, .int .i64 d]] W fun e w' => e = .returned (.int .i64 (wrap64 (a - c))) ∧ ∃ q os', w' = grow (W.drewN q) os' := by
  go_enter Try.func106, Try.ntmps106
  go_wp2_with fail
  go_ret
  exact ⟨rfl, 0, _, by rw [alloc_eq_grow, alloc_eq_grow, grow_grow]; rfl⟩

set_option maxRecDepth 100000 in
set_option maxHeartbeats 4000000 in
theorem join_gr (a b c d : Int) (w : World) : Calls Try.prog 107 #[.agg #[.int .i64 a, .int .i64 b], .agg #[.int .i64 c, .int .i64 d]] w fun e w' =>
    e = .returned (.tuple #[.agg #[.int .i64 a, .int .i64 (max b d)], .bool (decide (c ≤ b))]) ∧ Below w.heap.size w w' := by
  go_enter Try.func107, Try.ntmps107
  go_wp2_with fail
  have c0 : (((w.alloc (.cells #[.int .i64 a, .int .i64 b] 176)).alloc (.cells #[.int .i64 c, .int .i64 d] 176)).alloc (.cells #[.int .i64 0, .int .i64 0] 176)).cell? ⟨w.heap.size, 0, none⟩ = some (.int .i64 a) := by simp [go_sem]
  have c1 : (((w.alloc (.cells #[.int .i64 a, .int .i64 b] 176)).alloc (.cells #[.int .i64 c, .int .i64 d] 176)).alloc (.cells #[.int .i64 0, .int .i64 0] 176)).cell? ⟨w.heap.size, 1, none⟩ = some (.int .i64 b) := by simp [go_sem]
  have c2 : (((w.alloc (.cells #[.int .i64 a, .int .i64 b] 176)).alloc (.cells #[.int .i64 c, .int .i64 d] 176)).alloc (.cells #[.int .i64 0, .int .i64 0] 176)).cell? ⟨w.heap.size + 1, 0, none⟩ = some (.int .i64 c) := by simp [go_sem]
  have c3 : (((w.alloc (.cells #[.int .i64 a, .int .i64 b] 176)).alloc (.cells #[.int .i64 c, .int .i64 d] 176)).alloc (.cells #[.int .i64 0, .int .i64 0] 176)).cell? ⟨w.heap.size + 1, 1, none⟩ = some (.int .i64 d) := by simp [go_sem]
  have r0 : (((w.alloc (.cells #[.int .i64 a, .int .i64 b] 176)).alloc (.cells #[.int .i64 c, .int .i64 d] 176)).alloc (.cells #[.int .i64 0, .int .i64 0] 176)).cell? ⟨w.heap.size + 1 + 1, 0, none⟩ = some (.int .i64 0) := by simp [go_sem]
  have r1 : (((w.alloc (.cells #[.int .i64 a, .int .i64 b] 176)).alloc (.cells #[.int .i64 c, .int .i64 d] 176)).alloc (.cells #[.int .i64 0, .int .i64 0] 176)).cell? ⟨w.heap.size + 1 + 1, 1, none⟩ = some (.int .i64 0) := by simp [go_sem]
  have f0 : (((w.alloc (.cells #[.int .i64 a, .int .i64 b] 176)).alloc (.cells #[.int .i64 c, .int .i64 d] 176)).alloc (.cells #[.int .i64 0, .int .i64 0] 176)).frozen? ⟨w.heap.size + 1 + 1, 0, none⟩ = false := by simp [go_sem]
  have f1 : (((w.alloc (.cells #[.int .i64 a, .int .i64 b] 176)).alloc (.cells #[.int .i64 c, .int .i64 d] 176)).alloc (.cells #[.int .i64 0, .int .i64 0] 176)).frozen? ⟨w.heap.size + 1 + 1, 1, none⟩ = false := by simp [go_sem]
  have b1 : Below w.heap.size w (((w.alloc (.cells #[.int .i64 a, .int .i64 b] 176)).alloc (.cells #[.int .i64 c, .int .i64 d] 176)).alloc (.cells #[.int .i64 0, .int .i64 0] 176)) := (((Below.refl w.heap.size w).alloc (Nat.le_refl _) _).alloc (by simp) _).alloc (by simp; omega) _
  have z1 : w.heap.size + 1 + 1 < (((w.alloc (.cells #[.int .i64 a, .int .i64 b] 176)).alloc (.cells #[.int .i64 c, .int .i64 d] 176)).alloc (.cells #[.int .i64 0, .int .i64 0] 176)).heap.size := by simp
  obtain ⟨w0, hw0⟩ : ∃ w0, (((w.alloc (.cells #[.int .i64 a, .int .i64 b] 176)).alloc (.cells #[.int .i64 c, .int .i64 d] 176)).alloc (.cells #[.int .i64 0, .int .i64 0] 176)) = w0 := ⟨_, rfl⟩
  rw [hw0] at b1 z1 c0 c1 c2 c3 r0 r1 f0 f1 ⊢
  clear hw0
  obtain ⟨B, hB⟩ : ∃ B, w.heap.size = B := ⟨_, rfl⟩
  rw [hB] at b1 z1 c0 c1 c2 c3 r0 r1 f0 f1 ⊢
  have e0 : ¬ (B + 1 + 1 = B) := by omega
  have e0' : ¬ (B = B + 1 + 1) := by omega
  have e1 : ¬ (B + 1 + 1 = B + 1) := by omega
  have e1' : ¬ (B + 1 = B + 1 + 1) := by omega
  go_region_held3 (fun W' => W'.cell? ⟨B, 0, none⟩ = some (.int .i64 a) ∧ W'.cell? ⟨B, 1, none⟩ = some (.int .i64 b) ∧ W'.cell? ⟨B + 1, 0, none⟩ = some (.int .i64 c) ∧ W'.cell? ⟨B + 1, 1, none⟩ = some (.int .i64 d) ∧ W'.frozen? ⟨B + 1 + 1, 0, none⟩ = false ∧ W'.frozen? ⟨B + 1 + 1, 1, none⟩ = false) (first | exact ⟨c0, c1, c2, c3, f0, f1⟩ | go_keep | (simp [go_sem, c0, c1, c2, c3, f0, f1, r0, r1, e0, e0', e1, e1']; done)) (fail)
  rename_i hHeld
  clear hHeld
  have hzb : B + 1 + 1 < w0.heap.size := z1
  go_wp2_with fail
  refine bodyPost_ret (v := .tuple #[.agg #[.int .i64 a, .int .i64 (max b d)], .bool (decide (c ≤ b))]) (by simp [results, Try.results107, go_sem, r0, r1]) rfl ⟨rfl, ?_⟩
  rw [hB]
  exact belowDrew ((b1.setCell (p := ⟨B + 1 + 1, 0, none⟩) (by simp; omega) _).setCell (p := ⟨B + 1 + 1, 1, none⟩) (by simp; omega) _)
end Go.Proofs.Ytnbdnnbeiohmgaa
/- slices.SortFunc over the spans of a row. -/
namespace Go.Proofs.Ytnbdnnbeiohmgaa
open Go.RowKit Go.Shelf Go.Sort Go.Lib

abbrev Sp := Fin 257 × Int
def encSp (x : Sp) : List Value := [.int .i64 (x.1.val : Int), .int .i64 x.2]
def mkSp (s : S2) : Sp := (⟨min s.1.toNat 256, by omega⟩, s.2)
def toS (x : Sp) : S2 := ((x.1.val : Int), x.2)
theorem toS_mk {s : S2} (h : 0 ≤ s.1 ∧ s.1 ≤ 256) : toS (mkSp s) = s := by
  obtain ⟨a, b⟩ := s
  simp only [toS, mkSp]
  simp only at h
  have : ((min a.toNat 256 : Nat) : Int) = a := by omega
  rw [this]
def cfSp (x y : Sp) : Int := (x.1.val : Int) - y.1.val
theorem ltSp (x y : Sp) : ltOf cfSp x y = decide ((x.1.val : Int) < y.1.val) := by
  unfold ltOf cfSp
  by_cases h : (x.1.val : Int) < y.1.val
  · simp [h]; omega
  · simp [h]; omega
theorem swoSp : SWO (ltOf cfSp) where
  irrefl x := by rw [ltSp]; simp
  trans x y z h1 h2 := by rw [ltSp] at *; simp at *; omega
  ntrans x y z h1 h2 := by rw [ltSp] at *; simp at *; omega

theorem cmpSp (blk off size : Nat) (w : World) : CmpLays Try.prog 106 #[] encSp 2 cfSp blk off size w := by
  intro m os dk _ x y
  have h := cmp_gr (x.1.val : Int) x.2 (y.1.val : Int) y.2 (sortWorldK encSp 2 w blk off m dk os)
  rw [wrapId ((x.1.val : Int) - y.1.val) (by omega) (by omega)] at h
  exact h

/-- a row's cells hold its spans -/
theorem holdsSp {w : World} {base g cap n : Nat} {e : TypeId} {l : List S2} (h : w.ownsRow base e 2 (.slice (some ⟨g, 0, none⟩) n cap) n (flatE encS l)) (hn : n = l.length) (hl : ∀ s, s ∈ l → 0 ≤ s.1 ∧ s.1 ≤ 256) :
    HoldsK encSp 2 w g 0 (l.map mkSp).toArray := by
  subst hn
  intro t ht
  simp at ht
  rcases h.2 with ⟨h0, -⟩ | ⟨g', cap', cur, hv, -, hh, -, -, -, htk⟩
  · cases h0
  cases hv
  refine ⟨?_, by simp [World.frozen?, hh]⟩
  have hk : t / 2 < l.length := by omega
  rw [get_flatK _ _ _ _ (by simpa using ht)]
  have e1 : (l.map mkSp).toArray[t / 2]! = mkSp l[t / 2] := by simp [hk]
  rw [e1]
  have hm : l[t / 2] ∈ l := List.getElem_mem hk
  have hb := hl _ hm
  have e2 : encSp (mkSp l[t / 2]) = encS l[t / 2] := by
    have := toS_mk hb
    simp only [toS] at this
    simp only [encSp, encS]
    rw [← this]
    simp [mkSp]
  rw [e2]
  have hi : t % 2 < 2 := Nat.mod_lt _ (by omega)
  have e3 : (encS l[t / 2])[t % 2]? = some ((encS l[t / 2])[t % 2]!) := by
    have : t % 2 = 0 ∨ t % 2 = 1 := by omega
    rcases this with h | h <;> rw [h] <;> rfl
  have e4 := flatE_get encS_len l (t / 2) (t % 2) _ _ (List.getElem?_eq_getElem hk) e3
  rw [show t / 2 * 2 + t % 2 = t by omega] at e4
  have e5 : (cur.toList.take (l.length * 2))[t]? = some ((encS l[t / 2])[t % 2]!) := by rw [htk]; exact e4
  rw [List.getElem?_take_of_lt (by omega), Array.getElem?_toList] at e5
  simp only [World.cell?, hh, Nat.zero_add]
  simpa using e5

theorem grownSp {w : World} {g n : Nat} {os : Array Obj} (d : Array Sp) : w.grownBy (sortWorldK encSp 2 w g 0 n d os) (some g) := by
  refine ⟨rfl, rfl, rfl, by simp [sortWorldK, putRowK], fun k hk hne => ?_⟩
  unfold sortWorldK
  rw [heap_grow_old _ _ (by simpa [putRowK] using hk)]
  have : g ≠ k := fun e => hne (by rw [e])
  simp [putRowK, putRow, mapBlock, Sort.ahead, Array.getElem?_modify, this]

theorem cellsSp {w : World} {g n : Nat} {os : Array Obj} {d0 d : Array Sp} (hg : g < w.heap.size) (h : HoldsK encSp 2 w g 0 d0) (hs : d.size = d0.size) (k : Nat) (x : Sp) (hx : d.toList[k]? = some x) :
    (sortWorldK encSp 2 w g 0 n d os).cell? ⟨g, 0 + k * 2, none⟩ = some (.int .i64 (x.1.val : Int)) ∧ (sortWorldK encSp 2 w g 0 n d os).cell? ⟨g, 0 + k * 2 + 1, none⟩ = some (.int .i64 x.2) := by
  have hk : k < d.size := by
    have := (List.getElem?_eq_some_iff.1 hx).1
    simpa using this
  have key : ∀ i v, i < 2 → (encSp x)[i]? = some v → (sortWorldK encSp 2 w g 0 n d os).cell? ⟨g, 0 + (k * 2 + i), none⟩ = some v := by
    intro i v hi hv
    have h' : Holds id (Sort.ahead w n) g 0 (flatK encSp 2 d0) := h
    have c := cell?_putRow id (Sort.ahead w n) g 0 (flatK encSp 2 d0) (flatK encSp 2 d) h' (by simp [hs]) (k * 2 + i) (by simp; omega)
    rw [get_flatK _ _ _ _ (by omega), show (k * 2 + i) / 2 = k by omega, show (k * 2 + i) % 2 = i by omega] at c
    have e1 : d[k]! = x := by
      rw [Array.getElem?_toList] at hx
      simp [Array.getElem!_eq_getD, Array.getD_eq_getD_getElem?, hx]
    rw [e1] at c
    have e2 : (encSp x)[i]! = v := by simp [List.getElem!_eq_getElem?_getD, hv]
    rw [e2] at c
    have hgg : g < (putRow id (Sort.ahead w n) g 0 (flatK encSp 2 d)).heap.size := by simpa using hg
    unfold sortWorldK
    exact (World.cell?_of_block (heap_grow_old _ _ hgg)).trans c
  exact ⟨by simpa using key 0 _ (by omega) rfl, by simpa [Nat.add_assoc] using key 1 _ (by omega) rfl⟩

/-- the sort of a row: its spans in order -/
theorem sort_gr (v : Value) (l : List S2) (base : Nat) (w : World) (h : w.ownsRow base 176 2 v l.length (flatE encS l)) (hl : ∀ s, s ∈ l → 0 ≤ s.1 ∧ s.1 ≤ 256) (hcap : l.length ≤ 1000000000) :
    Calls Try.prog 153 #[v, .func (.func 106) #[] #[]] w fun e w' => e = .returned (.tuple #[]) ∧ w.grownBy w' v.ownBlock ∧
      ∃ l' : List S2, l'.Perm l ∧ l'.Pairwise (fun a b => a.1 ≤ b.1) ∧ ∀ g cap, v = .slice (some ⟨g, 0, none⟩) l.length cap → 0 < l.length → ∀ (k : Nat) (s : S2), l'[k]? = some s → w'.cell? ⟨g, k * 2, none⟩ = some (.int .i64 s.1) ∧ w'.cell? ⟨g, k * 2 + 1, none⟩ = some (.int .i64 s.2) := by
  rcases Nat.eq_zero_or_pos l.length with h0 | h0
  · have hl0 : l = [] := List.eq_nil_of_length_eq_zero h0
    subst hl0
    obtain ⟨p, cap, rfl⟩ : ∃ p cap, v = .slice p 0 cap := by
      rcases h.2 with ⟨rfl, -⟩ | ⟨g, cap, cur, rfl, -⟩
      · exact ⟨_, _, rfl⟩
      · exact ⟨_, _, rfl⟩
    refine (AnyF.slices_SortFunc_none Try.sortSp p cap (.func (.func 106) #[] #[]) w).mono ?_
    rintro e w' ⟨rfl, rfl⟩
    exact ⟨rfl, ⟨rfl, rfl, rfl, Nat.le_refl _, fun _ _ _ => rfl⟩, [], List.Perm.refl _, List.Pairwise.nil, fun g cap _ h => by simp at h⟩
  · obtain ⟨g, cap, rfl, hb, hlt⟩ := h.form h0
    have hH := holdsSp h rfl hl
    have eg : ∀ args w, (callFunc 106 args).run Try.prog w = .ok (.enter 106 args) w := enters_of Try.func106 (by kernel_rfl) rfl
    have hsz : (l.map mkSp).toArray.size = l.length := by simp
    have hcon := AnyQ.slices_SortFunc Try.sortSp 2 Try.isAgg176 Try.sizeOf176 encSp (fun _ => rfl) (fun x v hv => by simp [encSp] at hv; rcases hv with rfl | rfl <;> rfl) cfSp swoSp 106 #[] g 0 cap (l.map mkSp).toArray w eg (cmpSp g 0 _ w) hH hlt (by rw [hsz]; omega)
    rw [hsz] at hcon
    refine hcon.mono ?_
    rintro e w' ⟨rfl, d', n, os, hp, hs, rfl⟩
    obtain ⟨hz, -, hpm⟩ := hp
    rw [hsz] at hz
    have x1 : d'.extract 0 l.length = d' := by rw [← hz]; exact Array.extract_size
    have x2 : (l.map mkSp).toArray.extract 0 l.length = (l.map mkSp).toArray := by
      have : l.length = (l.map mkSp).toArray.size := hsz.symm
      rw [this]
      exact Array.extract_size
    rw [x1, x2] at hpm
    have hpm2 := hpm.map toS
    have x3 : ((l.map mkSp).toArray.toList).map toS = l := by
      simp only [List.map_map]
      refine (List.map_congr_left (g := id) fun s hs => ?_).trans (List.map_id _)
      exact toS_mk (hl s hs)
    rw [x3] at hpm2
    refine ⟨rfl, grownSp d', d'.toList.map toS, hpm2, ?_, ?_⟩
    · rw [List.pairwise_iff_getElem]
      intro i j hi hj hij
      simp at hi hj
      have := hs i j (Nat.zero_le _) hij (by rw [← hz]; exact hj)
      rw [ltSp] at this
      simp only [getElem!_pos d' j hj, getElem!_pos d' i hi, decide_eq_false_iff_not] at this
      simp only [List.getElem_map, Array.getElem_toList, toS]
      omega
    · intro g' cap' e _ k s hk
      cases e
      rw [List.getElem?_map] at hk
      obtain ⟨x, hx, rfl⟩ := Option.map_eq_some_iff.1 hk
      have := cellsSp (n := n) (os := os) hlt hH (by rw [hz, hsz]) k x hx
      simpa [toS] using this
end Go.Proofs.Ytnbdnnbeiohmgaa
/- grid.merged: a row's spans in order, none of which touch. -/
namespace Go.Proofs.Ytnbdnnbeiohmgaa
open Go.RowKit Go.Shelf Go.Lib

/-- the last element of a row written over -/
theorem ownsLast {w : World} {base g cap : Nat} {e : TypeId} {o : List S2} {a : S2} (x y : Int) (h : w.ownsRow base e 2 (.slice (some ⟨g, 0, none⟩) (o.length + 1) cap) (o.length + 1) (flatE encS (o ++ [a]))) :
    ((w.setCell ⟨g, o.length * 2, none⟩ (.int .i64 x)).setCell ⟨g, o.length * 2 + 1, none⟩ (.int .i64 y)).ownsRow base e 2 (.slice (some ⟨g, 0, none⟩) (o.length + 1) cap) (o.length + 1) (flatE encS (o ++ [(x, y)])) := by
  refine ⟨by rw [flatE_length encS_len]; simp, .inr ?_⟩
  rcases h.2 with ⟨h0, -⟩ | ⟨g', cap', cur, hv, hb, hh, h1, h2, h3, h4⟩
  · cases h0
  cases hv
  refine ⟨g, cap, (cur.setIfInBounds (o.length * 2) (.int .i64 x)).setIfInBounds (o.length * 2 + 1) (.int .i64 y), rfl, hb, ?_, h1, h2, by simpa using h3, ?_⟩
  · have hgl : g < w.heap.size := (Array.getElem?_eq_some_iff.1 hh).1
    simp [World.setCell, Array.getElem?_modify, hh]
  · have hsz : (o ++ [a]).length * 2 = (o.length + 1) * 2 := by simp
    apply List.ext_getElem?
    intro i
    have hold : (cur.toList.take ((o.length + 1) * 2))[i]? = (flatE encS (o ++ [a]))[i]? := by rw [h4]
    rw [flatE_append] at hold ⊢
    have hfl : (flatE encS o).length = o.length * 2 := flatE_length encS_len o
    rcases Nat.lt_or_ge i (o.length * 2) with hi | hi
    · rw [List.getElem?_append_left (by omega)] at hold ⊢
      rw [List.getElem?_take_of_lt (by omega)] at hold ⊢
      rw [Array.getElem?_toList] at hold ⊢
      rw [Array.getElem?_setIfInBounds_ne (by omega), Array.getElem?_setIfInBounds_ne (by omega)]
      exact hold
    · rw [List.getElem?_append_right (by omega), hfl]
      rcases Nat.lt_or_ge i ((o.length + 1) * 2) with hi2 | hi2
      · rw [List.getElem?_take_of_lt hi2, Array.getElem?_toList]
        have hlt : o.length * 2 + 1 < cur.size := by omega
        have : i = o.length * 2 ∨ i = o.length * 2 + 1 := by omega
        rcases this with rfl | rfl
        · rw [Array.getElem?_setIfInBounds_ne (by omega)]
          simp [flatE, encS, Nat.lt_of_succ_lt hlt]
        · simp [flatE, encS, hlt]
      · rw [List.getElem?_take_eq_none hi2]
        symm
        rw [List.getElem?_eq_none]
        simp [flatE, encS]
        omega

theorem lastCells {w : World} {base g cap : Nat} {e : TypeId} {o : List S2} {c d : Int} (h : w.ownsRow base e 2 (.slice (some ⟨g, 0, none⟩) (o.length + 1) cap) (o.length + 1) (flatE encS (o ++ [(c, d)]))) :
    w.cell? ⟨g, o.length * 2, none⟩ = some (.int .i64 c) ∧ w.cell? ⟨g, o.length * 2 + 1, none⟩ = some (.int .i64 d) ∧ w.frozen? ⟨g, o.length * 2, none⟩ = false ∧ w.frozen? ⟨g, o.length * 2 + 1, none⟩ = false := by
  rcases h.2 with ⟨h0, -⟩ | ⟨g', cap', cur, hv, hb, hh, h1, h2, h3, h4⟩
  · cases h0
  cases hv
  have hl : (o ++ [(c, d)])[o.length]? = some (c, d) := by simp
  have key : ∀ i v, i < 2 → (encS (c, d))[i]? = some v → w.cell? ⟨g, o.length * 2 + i, none⟩ = some v := by
    intro i v hi hv
    have e4 := flatE_get encS_len (o ++ [(c, d)]) o.length i _ _ hl hv
    have e5 : (cur.toList.take ((o.length + 1) * 2))[o.length * 2 + i]? = some v := by rw [h4]; exact e4
    rw [List.getElem?_take_of_lt (by omega), Array.getElem?_toList] at e5
    simp only [World.cell?, hh]
    simpa using e5
  exact ⟨key 0 _ (by omega) rfl, key 1 _ (by omega) rfl, by simp [World.frozen?, hh], by simp [World.frozen?, hh]⟩

theorem ownsSetO {w : World} {base : Nat} {e : TypeId} {size n : Nat} {v : Value} {xs : List Value} (h : w.ownsRow base e size v n xs) {a : Addr} (ha : v.ownBlock ≠ some a.block) (u : Value) : (w.setCell a u).ownsRow base e size v n xs := by
  refine ⟨h.1, ?_⟩
  rcases h.2 with h1 | ⟨g, cap, cur, rfl, hb, hh, hr⟩
  · exact .inl h1
  · refine .inr ⟨g, cap, cur, rfl, hb, ?_, hr⟩
    rw [Below.heap_setCell _ _ _ _ (fun e => ha (by simp [Value.ownBlock, e]))]
    exact hh

theorem ownsMono {w : World} {base base' : Nat} {e : TypeId} {size n : Nat} {v : Value} {xs : List Value} (h : w.ownsRow base e size v n xs) (hb : base' ≤ base) : w.ownsRow base' e size v n xs := by
  refine ⟨h.1, ?_⟩
  rcases h.2 with h1 | ⟨g, cap, cur, rfl, hg, hr⟩
  · exact .inl h1
  · exact .inr ⟨g, cap, cur, rfl, Nat.le_trans hb hg, hr⟩

theorem grownThen {w w1 w2 : World} {row : Option Nat} (h : w.grownBy w1 row) (hb : Below w1.heap.size w1 w2) : w.grownBy w2 row :=
  ⟨hb.os.trans h.os, hb.tape.trans h.tape, hb.output.trans h.output, Nat.le_trans h.size hb.size, fun k hk hne => (hb.block k (Nat.lt_of_lt_of_le hk h.size)).trans (h.block k hk hne)⟩
theorem mergeL_take {l : List S2} {k : Nat} {x : S2} (h : l[k]? = some x) : mergeL (l.take (k + 1)) = joinTo (mergeL (l.take k)) x := by
  rw [List.take_add_one, h]
  exact mergeL_snoc _ _

set_option maxRecDepth 100000 in
set_option maxHeartbeats 8000000 in
theorem merged_gr (v : Value) (l : List S2) (base : Nat) (w : World) (h : w.ownsRow base 176 2 v l.length (flatE encS l)) (hl : ∀ s, s ∈ l → 0 ≤ s.1 ∧ s.1 ≤ 256) (hcap : l.length ≤ 1000000000) :
    Calls Try.prog 105 #[v, .func (.func 106) #[] #[], .func (.func 107) #[] #[]] w fun e w' =>
      (∃ v' l', e = .returned v' ∧ l'.Perm l ∧ l'.Pairwise (fun a b => a.1 ≤ b.1) ∧ w'.ownsRow w.heap.size 176 2 v' (mergeL l').length (flatE encS (mergeL l'))) ∧ w.grownBy w' v.ownBlock := by
  have hs := sort_gr v l base w h hl hcap
  obtain ⟨p, cap, rfl, hp⟩ : ∃ p cap, v = .slice p l.length cap ∧ (0 < l.length → ∃ g, p = some ⟨g, 0, none⟩ ∧ g < w.heap.size) := by
    rcases h.2 with ⟨rfl, h0⟩ | ⟨g, cap, cur, rfl, hb, hh, -⟩
    · exact ⟨none, 0, by rw [h0], fun h => by omega⟩
    · refine ⟨_, _, rfl, fun _ => ⟨g, rfl, ?_⟩⟩
      rcases Nat.lt_or_ge g w.heap.size with h | h
      · exact h
      · rw [Array.getElem?_eq_none h] at hh
        cases hh
  have HS := Lib.hid hs
  have HL := Lib.hid hl
  clear hs h hl
  go_enter Try.func105, Try.ntmps105
  go_wp2_with fail
  refine HS.out.mono ?_
  rintro e w1 ⟨rfl, hg1, l', hpm, hsorted, hcells⟩
  have hlen := hpm.length_eq
  have HC := Lib.hid hcells
  have HP := Lib.hid hpm
  have HSo := Lib.hid hsorted
  clear hcells hpm hsorted HS
  obtain ⟨n, hn⟩ : ∃ n, l.length = n := ⟨_, rfl⟩
  rw [hn] at hlen hp hcap ⊢
  go_wp2_with fail
  go_loopw [7, 18] (fun vo i wr => ∃ k : Nat, k ≤ n ∧ i = .int .i64 k ∧ wr.ownsRow w1.heap.size 176 2 vo (mergeL (l'.take k)).length (flatE encS (mergeL (l'.take k))) ∧ Below w1.heap.size w1 wr) (fun _ i _ => n - (intOf i).toNat)
  case atStart => exact ⟨0, Nat.zero_le _, rfl, World.ownsRow_nil _ _ _ _, Below.refl _ _⟩
  case round =>
    obtain ⟨k, hk, rfl, hown, hb⟩ := hrel
    by_cases hlt : k < n
    · obtain ⟨g, rfl, hgl⟩ := hp (by omega)
      obtain ⟨⟨a, t⟩, hx⟩ : ∃ x, l'[k]? = some x := ⟨_, List.getElem?_eq_getElem (by omega)⟩
      obtain ⟨m0, m1⟩ := HC.out g cap rfl (by omega) k (a, t) hx
      have hg2 : g < w1.heap.size := Nat.lt_of_lt_of_le hgl hg1.size
      have m0 := (hb.cell (p := ⟨g, k * 2, none⟩) hg2).trans m0
      have m1 := (hb.cell (p := ⟨g, k * 2 + 1, none⟩) hg2).trans m1
      dsimp only at m0 m1
      have hmk := mergeL_take hx
      have hlk := mergeL_length (l'.take k)
      have hlk2 : (l'.take k).length ≤ k := by simp; omega
      have HX := Lib.hid hmk
      clear hx hmk
      have hz := hb.size
      have hg3 : g < wr.heap.size := by omega
      have hknn : (k : Int) < n := by omega
      rcases List.eq_nil_or_concat (mergeL (l'.take k)) with ho | ⟨o, ⟨c, d⟩, ho⟩
      · rw [ho] at hown HX
        obtain ⟨q, c2, rfl⟩ : ∃ q c2, u7 = .slice q 0 c2 := by
          rcases hown.2 with ⟨rfl, -⟩ | ⟨g', cap', cur, rfl, -⟩
          · exact ⟨_, _, rfl⟩
          · exact ⟨_, _, rfl⟩
        obtain ⟨i0, hi, hz0, hz1, hz2⟩ := info_parts infoSpan
        have hown4 := (hown.alloc (.cells #[.int .i64 a, .int .i64 t] 176)).alloc (.cells #[.int .i64 a, .int .i64 t] 176)
        go_wp2_with (at_builtin; refine wpList_append_lies _ rfl _ _ _ rfl (w1.heap.size) 176 i0 _ 2 16 Try.underlying98 hi hz0 hz1 hz2 rfl (by omega) (.slice q 0 c2) 0 (flatE encS []) rfl hown4 ⟨wr.heap.size + 1, 0, none⟩ 1 1 [.int .i64 a, .int .i64 t] rfl rfl (newsLit (cs := #[.int .i64 a, .int .i64 t]) (by simp)) (by simp [Value.oneCell']) (by omega) (by unfold maxLen; omega) (by omega) (by simp; omega) (wr.heap.size + 2) (by simp) ?_; intro gg cap5 w5 hown5 hgrow hat hlt5)
        go_roundw
        case rel =>
          refine ⟨k + 1, by omega, by go_num, ?_, ?_⟩
          · rw [HX.out, joinTo_nil]; exact hown5
          · exact ((hb.alloc (by omega) _).alloc (by simp; omega) _).grown hgrow (by simp; omega) (fun j hj => (ownBlock_lt hown hj).1)
        case measure => simp [intOf]; omega
      · rw [List.concat_eq_append] at ho
        rw [ho] at hown HX hlk
        obtain ⟨g2, c2, rfl⟩ : ∃ g2 c2, u7 = .slice (some ⟨g2, 0, none⟩) (o ++ [(c, d)]).length c2 := by
          rcases hown.2 with ⟨-, h0⟩ | ⟨g', cap', cur, rfl, -⟩
          · simp at h0
          · exact ⟨_, _, rfl⟩
        simp only [List.length_append, List.length_cons, List.length_nil, Nat.zero_add] at hown hlk ⊢
        obtain ⟨p0, p1, p2, p3⟩ : wr.cell? ⟨g2, o.length * 2, none⟩ = some (.int .i64 c) ∧ wr.cell? ⟨g2, o.length * 2 + 1, none⟩ = some (.int .i64 d) ∧ wr.frozen? ⟨g2, o.length * 2, none⟩ = false ∧ wr.frozen? ⟨g2, o.length * 2 + 1, none⟩ = false := lastCells hown
        have hgb := ownBlock_lt hown rfl
        obtain ⟨j, hj⟩ : ∃ j, o.length = j := ⟨_, rfl⟩
        have hown0 := hown
        rw [hj] at hown p0 p1 p2 p3 hlk ⊢
        have ej3 : IntKind.i64.wrap (j : Int) = j := wrapK _ (by omega) (by omega)
        have hj0 : (0 : Int) ≤ (j : Int) := by omega
        have hj1 : (j : Int) < (j : Int) + 1 := by omega
        obtain ⟨hg2l, hg2r⟩ := hgb
        go_wp2_with fail
        have q0 := (World.cell?_alloc_lt wr (.cells #[.int .i64 a, .int .i64 t] 176) ⟨g2, j * 2, none⟩ hg2r).trans p0
        have q1 := (World.cell?_alloc_lt wr (.cells #[.int .i64 a, .int .i64 t] 176) ⟨g2, j * 2 + 1, none⟩ hg2r).trans p1
        have q2 := (frozenAllocLt wr (.cells #[.int .i64 a, .int .i64 t] 176) ⟨g2, j * 2, none⟩ hg2r).trans p2
        have q3 := (frozenAllocLt wr (.cells #[.int .i64 a, .int .i64 t] 176) ⟨g2, j * 2 + 1, none⟩ hg2r).trans p3
        have x0 : (wr.alloc (.cells #[.int .i64 a, .int .i64 t] 176)).cell? ⟨wr.heap.size, 0, none⟩ = some (.int .i64 a) := by simp [go_sem]
        have x1 : (wr.alloc (.cells #[.int .i64 a, .int .i64 t] 176)).cell? ⟨wr.heap.size, 1, none⟩ = some (.int .i64 t) := by simp [go_sem]
        have hown5 := hown0.alloc (.cells #[.int .i64 a, .int .i64 t] 176)
        have hbe := hb.alloc (by omega) (.cells #[.int .i64 a, .int .i64 t] 176)
        have hze : wr.heap.size < (wr.alloc (.cells #[.int .i64 a, .int .i64 t] 176)).heap.size := by simp
        obtain ⟨X, hX⟩ : ∃ X, wr.heap.size = X := ⟨_, rfl⟩
        obtain ⟨we, hwe⟩ : ∃ we, wr.alloc (.cells #[.int .i64 a, .int .i64 t] 176) = we := ⟨_, rfl⟩
        rw [hwe] at q0 q1 q2 q3 x0 x1 hown5 hbe hze ⊢
        rw [hX] at x0 x1 hze hg2r ⊢
        have hgwe : g2 < we.heap.size := by omega
        clear hwe p0 p1 p2 p3 hown hown0
        have HJ := Lib.hid (join_gr c d a t)
        have hle : w1.heap.size ≤ we.heap.size := by have := hbe.size; omega
        have hgwa : g2 < (we.alloc (.cells #[.int .i64 0, .int .i64 0] 176)).heap.size := by simp; omega
        have hxwa : X < (we.alloc (.cells #[.int .i64 0, .int .i64 0] 176)).heap.size := by simp; omega
        have hywa : we.heap.size < (we.alloc (.cells #[.int .i64 0, .int .i64 0] 176)).heap.size := by simp
        have hlwa : we.heap.size ≤ (we.alloc (.cells #[.int .i64 0, .int .i64 0] 176)).heap.size := by simp
        have nz0 : (we.alloc (.cells #[.int .i64 0, .int .i64 0] 176)).cell? ⟨we.heap.size, 0, none⟩ = some (.int .i64 0) := by simp [go_sem]
        have nz1 : (we.alloc (.cells #[.int .i64 0, .int .i64 0] 176)).cell? ⟨we.heap.size, 1, none⟩ = some (.int .i64 0) := by simp [go_sem]
        have mz0 : (we.alloc (.cells #[.int .i64 0, .int .i64 0] 176)).frozen? ⟨we.heap.size, 0, none⟩ = false := by simp [go_sem]
        have mz1 : (we.alloc (.cells #[.int .i64 0, .int .i64 0] 176)).frozen? ⟨we.heap.size, 1, none⟩ = false := by simp [go_sem]
        have u1 : ¬ (we.heap.size = g2) := by omega
        have u2 : ¬ (we.heap.size = X) := by omega
        have u3 : ¬ (g2 = we.heap.size) := by omega
        have u4 : ¬ (X = we.heap.size) := by omega
        go_region_held3 (fun W' => W'.cell? ⟨g2, j * 2, none⟩ = some (.int .i64 c) ∧ W'.cell? ⟨g2, j * 2 + 1, none⟩ = some (.int .i64 d) ∧ W'.cell? ⟨X, 0, none⟩ = some (.int .i64 a) ∧ W'.cell? ⟨X, 1, none⟩ = some (.int .i64 t))
          (first | exact ⟨q0, q1, x0, x1⟩ | exact ⟨r0, r1, y0, y1⟩ | exact ⟨(World.cell?_alloc_lt we _ ⟨g2, j * 2, none⟩ hgwe).trans q0, (World.cell?_alloc_lt we _ ⟨g2, j * 2 + 1, none⟩ hgwe).trans q1, (World.cell?_alloc_lt we _ ⟨X, 0, none⟩ hze).trans x0, (World.cell?_alloc_lt we _ ⟨X, 1, none⟩ hze).trans x1⟩ | exact ⟨(World.cell?_alloc_lt w2 _ ⟨g2, j * 2, none⟩ (Nat.lt_of_lt_of_le hgwe hsz)).trans r0, (World.cell?_alloc_lt w2 _ ⟨g2, j * 2 + 1, none⟩ (Nat.lt_of_lt_of_le hgwe hsz)).trans r1, (World.cell?_alloc_lt w2 _ ⟨X, 0, none⟩ (Nat.lt_of_lt_of_le hze hsz)).trans y0, (World.cell?_alloc_lt w2 _ ⟨X, 1, none⟩ (Nat.lt_of_lt_of_le hze hsz)).trans y1⟩ | (simp [go_sem, r0, r1, y0, y1]; done) | go_keep)
          (first | (go_at_call 107; (with_reducible refine (HJ.out _).mono ?_); rintro e w2 ⟨rfl, hb2⟩; have r0 : w2.cell? ⟨g2, j * 2, none⟩ = some (.int .i64 c) := (hb2.cell (p := ⟨g2, j * 2, none⟩) hgwe).trans q0; have r1 : w2.cell? ⟨g2, j * 2 + 1, none⟩ = some (.int .i64 d) := (hb2.cell (p := ⟨g2, j * 2 + 1, none⟩) hgwe).trans q1; have y0 : w2.cell? ⟨X, 0, none⟩ = some (.int .i64 a) := (hb2.cell (p := ⟨X, 0, none⟩) hze).trans x0; have y1 : w2.cell? ⟨X, 1, none⟩ = some (.int .i64 t) := (hb2.cell (p := ⟨X, 1, none⟩) hze).trans x1; have hq2 : w2.frozen? ⟨g2, j * 2, none⟩ = false := (hb2.frozen (p := ⟨g2, j * 2, none⟩) hgwe).trans q2; have hq3 : w2.frozen? ⟨g2, j * 2 + 1, none⟩ = false := (hb2.frozen (p := ⟨g2, j * 2 + 1, none⟩) hgwe).trans q3; have hbw : Below w1.heap.size w1 w2 := hbe.trans (Below.mono (show Below we.heap.size we w2 from ⟨hb2.os, hb2.tape, hb2.output, hb2.size, hb2.block⟩) hle); have hown6 := ownsBelow hown5 (show Below we.heap.size we w2 from ⟨hb2.os, hb2.tape, hb2.output, hb2.size, hb2.block⟩); have hsz : we.heap.size ≤ w2.heap.size := hb2.size; skip) | (go_at_call 107; (with_reducible refine (HJ.out _).mono ?_); rintro e w2 ⟨rfl, hb2⟩; have r0 : w2.cell? ⟨g2, j * 2, none⟩ = some (.int .i64 c) := (hb2.cell (p := ⟨g2, j * 2, none⟩) hgwa).trans ((World.cell?_alloc_lt we (.cells #[.int .i64 0, .int .i64 0] 176) ⟨g2, j * 2, none⟩ hgwe).trans q0); have r1 : w2.cell? ⟨g2, j * 2 + 1, none⟩ = some (.int .i64 d) := (hb2.cell (p := ⟨g2, j * 2 + 1, none⟩) hgwa).trans ((World.cell?_alloc_lt we (.cells #[.int .i64 0, .int .i64 0] 176) ⟨g2, j * 2 + 1, none⟩ hgwe).trans q1); have y0 : w2.cell? ⟨X, 0, none⟩ = some (.int .i64 a) := (hb2.cell (p := ⟨X, 0, none⟩) hxwa).trans ((World.cell?_alloc_lt we (.cells #[.int .i64 0, .int .i64 0] 176) ⟨X, 0, none⟩ hze).trans x0); have y1 : w2.cell? ⟨X, 1, none⟩ = some (.int .i64 t) := (hb2.cell (p := ⟨X, 1, none⟩) hxwa).trans ((World.cell?_alloc_lt we (.cells #[.int .i64 0, .int .i64 0] 176) ⟨X, 1, none⟩ hze).trans x1); have hba := (show Below we.heap.size we w2 from ((Below.refl _ we).alloc (Nat.le_refl _) (.cells #[.int .i64 0, .int .i64 0] 176)).trans (Below.mono (show Below (we.alloc (.cells #[.int .i64 0, .int .i64 0] 176)).heap.size (we.alloc (.cells #[.int .i64 0, .int .i64 0] 176)) w2 from ⟨hb2.os, hb2.tape, hb2.output, hb2.size, hb2.block⟩) hlwa)); have hq2 : w2.frozen? ⟨g2, j * 2, none⟩ = false := (hba.frozen (p := ⟨g2, j * 2, none⟩) hgwe).trans q2; have hq3 : w2.frozen? ⟨g2, j * 2 + 1, none⟩ = false := (hba.frozen (p := ⟨g2, j * 2 + 1, none⟩) hgwe).trans q3; have hbw : Below w1.heap.size w1 w2 := hbe.trans (hba.mono hle); have hown6 := ownsBelow hown5 hba; have hsz : we.heap.size ≤ w2.heap.size := hba.size; have n0 : w2.cell? ⟨we.heap.size, 0, none⟩ = some (.int .i64 0) := (hb2.cell (p := ⟨we.heap.size, 0, none⟩) hywa).trans nz0; have n1 : w2.cell? ⟨we.heap.size, 1, none⟩ = some (.int .i64 0) := (hb2.cell (p := ⟨we.heap.size, 1, none⟩) hywa).trans nz1; have m0 : w2.frozen? ⟨we.heap.size, 0, none⟩ = false := (hb2.frozen (p := ⟨we.heap.size, 0, none⟩) hywa).trans mz0; have m1 : w2.frozen? ⟨we.heap.size, 1, none⟩ = false := (hb2.frozen (p := ⟨we.heap.size, 1, none⟩) hywa).trans mz1; skip))
        · rename_i hHeld
          obtain ⟨r0, r1, y0, y1⟩ := hHeld
          obtain ⟨M, hM⟩ : ∃ M, max d t = M := ⟨_, rfl⟩
          rw [hM] at r0 r1 y0 y1 ⊢
          have hsg : g2 < w2.heap.size := Nat.lt_of_lt_of_le hgwe hsz
          have hq2 := (frozenAllocLt w2 (.cells #[.int .i64 c, .int .i64 M] 176) ⟨g2, j * 2, none⟩ hsg).trans hq2
          have hq3 := (frozenAllocLt w2 (.cells #[.int .i64 c, .int .i64 M] 176) ⟨g2, j * 2 + 1, none⟩ hsg).trans hq3
          have t0 : (w2.alloc (.cells #[.int .i64 c, .int .i64 M] 176)).cell? ⟨w2.heap.size, 0, none⟩ = some (.int .i64 c) := by simp [go_sem]
          have t1 : (w2.alloc (.cells #[.int .i64 c, .int .i64 M] 176)).cell? ⟨w2.heap.size, 1, none⟩ = some (.int .i64 M) := by simp [go_sem]
          have hbw := hbw.alloc (by omega) (.cells #[.int .i64 c, .int .i64 M] 176)
          have hown6 := hown6.alloc (.cells #[.int .i64 c, .int .i64 M] 176)
          have hYw : w2.heap.size < (w2.alloc (.cells #[.int .i64 c, .int .i64 M] 176)).heap.size := by simp
          have hszz : we.heap.size ≤ (w2.alloc (.cells #[.int .i64 c, .int .i64 M] 176)).heap.size := by simp; omega
          obtain ⟨Y, hY⟩ : ∃ Y, w2.heap.size = Y := ⟨_, rfl⟩
          obtain ⟨wz, hwz⟩ : ∃ wz, w2.alloc (.cells #[.int .i64 c, .int .i64 M] 176) = wz := ⟨_, rfl⟩
          rw [hwz] at r0 r1 y0 y1 hq2 hq3 t0 t1 hbw hown6 hYw hszz ⊢
          rw [hY] at t0 t1 hYw ⊢
          clear hwz
          have hgwz : g2 < wz.heap.size := by omega
          by_cases had : a ≤ d
          · go_wp2_with fail
            go_roundw
            case rel =>
              refine ⟨k + 1, by omega, by go_num, ?_, ?_⟩
              · rw [HX.out, joinTo_in (a := (c, d)) (x := (a, t)) had]
                dsimp only
                rw [hM]
                have := ownsLast (o := o) (a := (c, d)) c M hown6
                rw [hj] at this
                simp only [List.length_append, List.length_cons, List.length_nil, Nat.zero_add]
                rw [hj]
                exact this
              · exact (hbw.setCell (p := ⟨g2, j * 2, none⟩) hg2l _).setCell (p := ⟨g2, j * 2 + 1, none⟩) hg2l _
            case measure => simp [intOf]; omega
          · have had' : d < a := by omega
            obtain ⟨i0, hi, hz0, hz1, hz2⟩ := info_parts infoSpan
            have hown7 := hown6.alloc (.cells #[.int .i64 a, .int .i64 t] 176)
            rw [hj] at hown7
            go_wp2_with (at_builtin; refine wpList_append_lies _ rfl _ _ _ rfl (w1.heap.size) 176 i0 _ 2 16 Try.underlying98 hi hz0 hz1 hz2 rfl (by omega) (.slice (some ⟨g2, 0, none⟩) (j + 1) c2) (j + 1) (flatE encS (o ++ [(c, d)])) rfl hown7 ⟨wz.heap.size, 0, none⟩ 1 1 [.int .i64 a, .int .i64 t] rfl rfl (newsLit (cs := #[.int .i64 a, .int .i64 t]) (by simp)) (by simp [Value.oneCell']) (by omega) (by unfold maxLen; omega) (by omega) (by simp; omega) (wz.heap.size + 1) (by simp) ?_; intro gg cap5 w5 hown8 hgrow hat hlt5)
            go_roundw
            case rel =>
              refine ⟨k + 1, by omega, by go_num, ?_, ?_⟩
              · rw [HX.out, joinTo_out (a := (c, d)) (x := (a, t)) had', flatE_append]
                simp only [List.length_append, List.length_cons, List.length_nil, Nat.zero_add]
                rw [hj]
                exact hown8
              · exact (hbw.alloc (by omega) _).grown hgrow (by simp; omega) (fun q hq => by simp [Value.ownBlock] at hq; omega)
            case measure => simp [intOf]; omega
        · rename_i hHeld
          obtain ⟨r0, r1, y0, y1⟩ := hHeld
          obtain ⟨M, hM⟩ : ∃ M, max d t = M := ⟨_, rfl⟩
          rw [hM] at r0 r1 y0 y1 ⊢
          have hq2 : ((w2.setCell ⟨we.heap.size, 0, none⟩ (.int .i64 c)).setCell ⟨we.heap.size, 1, none⟩ (.int .i64 M)).frozen? ⟨g2, j * 2, none⟩ = false := by simp [go_sem, hq2]
          have hq3 : ((w2.setCell ⟨we.heap.size, 0, none⟩ (.int .i64 c)).setCell ⟨we.heap.size, 1, none⟩ (.int .i64 M)).frozen? ⟨g2, j * 2 + 1, none⟩ = false := by simp [go_sem, hq3]
          have t0 : ((w2.setCell ⟨we.heap.size, 0, none⟩ (.int .i64 c)).setCell ⟨we.heap.size, 1, none⟩ (.int .i64 M)).cell? ⟨we.heap.size, 0, none⟩ = some (.int .i64 c) := by simp [go_sem, n0]
          have t1 : ((w2.setCell ⟨we.heap.size, 0, none⟩ (.int .i64 c)).setCell ⟨we.heap.size, 1, none⟩ (.int .i64 M)).cell? ⟨we.heap.size, 1, none⟩ = some (.int .i64 M) := by simp [go_sem, n1]
          have hbw := (hbw.setCell (p := ⟨we.heap.size, 0, none⟩) hle (.int .i64 c)).setCell (p := ⟨we.heap.size, 1, none⟩) hle (.int .i64 M)
          have hown6 := ownsSetO (ownsSetO hown6 (a := ⟨we.heap.size, 0, none⟩) (by simp [Value.ownBlock]; omega) (.int .i64 c)) (a := ⟨we.heap.size, 1, none⟩) (by simp [Value.ownBlock]; omega) (.int .i64 M)
          have hYw : we.heap.size < ((w2.setCell ⟨we.heap.size, 0, none⟩ (.int .i64 c)).setCell ⟨we.heap.size, 1, none⟩ (.int .i64 M)).heap.size := by have := World.block_lt_of_cell? w2 _ n0; simp [World.setCell]; omega
          have hszz : we.heap.size ≤ ((w2.setCell ⟨we.heap.size, 0, none⟩ (.int .i64 c)).setCell ⟨we.heap.size, 1, none⟩ (.int .i64 M)).heap.size := by simp [World.setCell]; omega
          obtain ⟨Y, hY⟩ : ∃ Y, we.heap.size = Y := ⟨_, rfl⟩
          obtain ⟨wz, hwz⟩ : ∃ wz, ((w2.setCell ⟨we.heap.size, 0, none⟩ (.int .i64 c)).setCell ⟨we.heap.size, 1, none⟩ (.int .i64 M)) = wz := ⟨_, rfl⟩
          rw [hwz] at r0 r1 y0 y1 hq2 hq3 t0 t1 hbw hown6 hYw hszz ⊢
          rw [hY] at t0 t1 hYw ⊢
          clear hwz
          have hgwz : g2 < wz.heap.size := by omega
          by_cases had : a ≤ d
          · go_wp2_with fail
            go_roundw
            case rel =>
              refine ⟨k + 1, by omega, by go_num, ?_, ?_⟩
              · rw [HX.out, joinTo_in (a := (c, d)) (x := (a, t)) had]
                dsimp only
                rw [hM]
                have := ownsLast (o := o) (a := (c, d)) c M hown6
                rw [hj] at this
                simp only [List.length_append, List.length_cons, List.length_nil, Nat.zero_add]
                rw [hj]
                exact this
              · exact (hbw.setCell (p := ⟨g2, j * 2, none⟩) hg2l _).setCell (p := ⟨g2, j * 2 + 1, none⟩) hg2l _
            case measure => simp [intOf]; omega
          · have had' : d < a := by omega
            obtain ⟨i0, hi, hz0, hz1, hz2⟩ := info_parts infoSpan
            have hown7 := hown6.alloc (.cells #[.int .i64 a, .int .i64 t] 176)
            rw [hj] at hown7
            go_wp2_with (at_builtin; refine wpList_append_lies _ rfl _ _ _ rfl (w1.heap.size) 176 i0 _ 2 16 Try.underlying98 hi hz0 hz1 hz2 rfl (by omega) (.slice (some ⟨g2, 0, none⟩) (j + 1) c2) (j + 1) (flatE encS (o ++ [(c, d)])) rfl hown7 ⟨wz.heap.size, 0, none⟩ 1 1 [.int .i64 a, .int .i64 t] rfl rfl (newsLit (cs := #[.int .i64 a, .int .i64 t]) (by simp)) (by simp [Value.oneCell']) (by omega) (by unfold maxLen; omega) (by omega) (by simp; omega) (wz.heap.size + 1) (by simp) ?_; intro gg cap5 w5 hown8 hgrow hat hlt5)
            go_roundw
            case rel =>
              refine ⟨k + 1, by omega, by go_num, ?_, ?_⟩
              · rw [HX.out, joinTo_out (a := (c, d)) (x := (a, t)) had', flatE_append]
                simp only [List.length_append, List.length_cons, List.length_nil, Nat.zero_add]
                rw [hj]
                exact hown8
              · exact (hbw.alloc (by omega) _).grown hgrow (by simp; omega) (fun q hq => by simp [Value.ownBlock] at hq; omega)
            case measure => simp [intOf]; omega
    · have hke : k = n := by omega
      subst hke
      have hfin := ownsMono hown hg1.size
      rw [List.take_of_length_le (by omega)] at hfin
      go_wp2_with fail
      go_ret
      exact ⟨⟨_, l', rfl, HP.out, HSo.out, hfin⟩, grownThen hg1 hb⟩
end Go.Proofs.Ytnbdnnbeiohmgaa
/- grid's table.region. -/
namespace Go.Proofs.Ytnbdnnbeiohmgaa
open Go.RowKit Go.Shelf Go.Lib

theorem infoRun : (Try.prog.info? 72).map (fun i => (i.zero, i.size, i.bytes)) = some (some (.agg #[.int .i64 0, .int .i64 0, .int .i64 0]), 3, 24) := by kernel_rfl

/-- the runs of a row -/
def rowR (y : Nat) (m : List S2) : List R3 := m.map fun s => ((y : Int), s.1, s.2)
/-- the runs of so many rows -/
def rowsR (ms : Nat → List S2) (n : Nat) : List R3 := (List.range n).flatMap fun y => rowR y (ms y)
theorem rowsR_succ (ms : Nat → List S2) (n : Nat) : rowsR ms (n + 1) = rowsR ms n ++ rowR n (ms n) := by simp [rowsR, List.range_succ]
theorem rowsR_upd (ms : Nat → List S2) (n : Nat) (m : List S2) : rowsR (upd ms n m) n = rowsR ms n := by
  unfold rowsR
  rw [List.flatMap_def, List.flatMap_def]
  refine congrArg List.flatten (List.map_congr_left fun y hy => ?_)
  rw [upd_other]
  have := List.mem_range.1 hy
  omega
/-- these are a row's spans, merged -/
def MergeOf (l m : List S2) : Prop := ∃ l' : List S2, l'.Perm l ∧ l'.Pairwise (fun a b => a.1 ≤ b.1) ∧ m = mergeL l'
theorem MergeOf.length {l m : List S2} (h : MergeOf l m) : m.length ≤ l.length := by
  obtain ⟨l', hp, -, rfl⟩ := h
  rw [← hp.length_eq]
  exact mergeL_length l'
def RegOf (f : Nat → List S2) (R : List R3) : Prop := ∃ ms : Nat → List S2, (∀ y, y < 256 → MergeOf (f y) (ms y)) ∧ R = rowsR ms 256

theorem rowsR_length {ms f : Nat → List S2} {n N : Nat} (h : ∀ y, y < n → MergeOf (f y) (ms y)) (hf : ∀ y, y < n → (f y).length ≤ N) : (rowsR ms n).length ≤ n * N := by
  induction n with
  | zero => simp [rowsR]
  | succ n ih =>
    have h1 := ih (fun y hy => h y (by omega)) (fun y hy => hf y (by omega))
    have h2 := (h n (by omega)).length
    have h3 := hf n (by omega)
    rw [rowsR_succ, List.length_append, Nat.add_mul]
    simp only [rowR, List.length_map]
    omega

set_option maxRecDepth 100000 in
set_option maxHeartbeats 8000000 in
theorem region_gr (b : Nat) (vs : Nat → Value) (f : Nat → List S2) (w : World) (h : Tab w b vs f) (hf : ∀ i, i < 256 → (f i).length ≤ 1000000) (hs : ∀ i, i < 256 → ∀ s, s ∈ f i → 0 ≤ s.1 ∧ s.1 ≤ 256) :
    Calls Try.prog 55 #[.pointer (some ⟨b, 0, none⟩)] w fun e w' =>
      (∃ R, RegOf f R ∧ ∃ v, e = .returned (.tuple #[v, .int .i64 (if R.length ≤ 8192 then 0 else 3)]) ∧ Runs w' v (if R.length ≤ 8192 then R else [])) ∧ Below b w w' := by
  go_enter Try.func55, Try.ntmps55
  have hbl := h.lt
  obtain ⟨B, hB⟩ : ∃ B, w.heap.size = B := ⟨_, rfl⟩
  rw [hB] at hbl
  go_wp2_with fail
  go_loopw [4, 11] (fun vo i wr => ∃ k : Nat, k ≤ 256 ∧ i = .int .i64 k ∧ ∃ ms : Nat → List S2, (∀ y, y < k → MergeOf (f y) (ms y)) ∧ wr.ownsRow B 72 3 vo (rowsR ms k).length (flatE encR (rowsR ms k)) ∧
      (∀ i, i < 256 → wr.cell? ⟨b, i, none⟩ = some (vs i)) ∧ (∀ i, k ≤ i → i < 256 → wr.ownsRow (b + 1) 176 2 (vs i) (f i).length (flatE encS (f i))) ∧ Below b w wr) (fun _ i _ => 256 - (intOf i).toNat)
  case atStart => exact ⟨0, by omega, rfl, fun _ => [], fun y hy => by omega, World.ownsRow_nil _ _ _ _, h.cell, fun i _ hi => h.own i hi, Below.refl _ _⟩
  case round =>
    obtain ⟨k, hk, rfl, ms, hms, hout, hcell, hrows, hb⟩ := hrel
    by_cases hlt : k < 256
    · have c0 := hcell k hlt
      have hown := hrows k (Nat.le_refl _) hlt
      have hk0 : (0 : Int) ≤ (k : Int) := by omega
      have hk1 : (k : Int) < 256 := by omega
      obtain ⟨vk, hvk⟩ : ∃ v, vs k = v := ⟨_, rfl⟩
      rw [hvk] at c0 hown
      have HC := Lib.hid hcell
      have HR := Lib.hid hrows
      have HM := Lib.hid hms
      have HT := Lib.hid h
      clear hcell hrows hms h
      go_wp2_with fail
      go_quiet (fail)
      go_wp2_with fail
      have hlk := hf k hlt
      refine (merged_gr vk (f k) (b + 1) (wr.drewN nq) hown (hs k hlt) (by omega)).mono ?_
      rintro e w2 ⟨⟨v2, l', rfl, hp, hso, hm⟩, hg0⟩
      have hg : wr.grownBy w2 vk.ownBlock := ⟨hg0.os, hg0.tape, hg0.output, hg0.size, hg0.block⟩
      have hm : w2.ownsRow wr.heap.size 176 2 v2 (mergeL l').length (flatE encS (mergeL l')) := hm
      clear hg0
      have hvB : ∀ g, vk.ownBlock = some g → b + 1 ≤ g ∧ g < B := fun g hgk => by
        have := ownBlock_lt (HT.out.own k hlt) (by rw [hvk]; exact hgk)
        omega
      have hbsz := hb.size
      have hcell2 := Lib.hid (fun i (hi : i < 256) => (hg.cell_far ⟨b, i, none⟩ (by show b < wr.heap.size; omega) (fun e => by have := (hvB b e.symm).1; omega)).trans (HC.out i hi))
      have hrows2 := Lib.hid (fun i (hki : k + 1 ≤ i) (hi : i < 256) => (HR.out i (by omega) hi).kept hg (by
        cases hv : (vs i).ownBlock with
        | none => exact .inl rfl
        | some g2 => exact .inr fun hh => HT.out.apart i k hi hlt (by omega) g2 hv (by rw [hvk]; exact hh.symm)))
      have hneO : u4.ownBlock = none ∨ u4.ownBlock ≠ vk.ownBlock := by
        cases hv : u4.ownBlock with
        | none => exact .inl rfl
        | some g2 =>
          refine .inr fun hh => ?_
          have h1 := (hvB g2 hh.symm).2
          have h2 := (ownBlock_lt hout hv).1
          omega
      have hout2 := hout.kept hg hneO
      obtain ⟨row0, hrow0⟩ : ∃ r, u4.ownBlock = r := ⟨_, rfl⟩
      have hr0 : ∀ g, row0 = some g → B ≤ g ∧ g < wr.heap.size := fun g hgr => ownBlock_lt hout (by rw [hrow0]; exact hgr)
      have hb2 : Below b w w2 := hb.grown hg (by omega) (fun g hgk => by have := (hvB g hgk).1; omega)
      have hmerge : MergeOf (f k) (mergeL l') := ⟨l', hp, hso, rfl⟩
      have hml := hmerge.length
      obtain ⟨m, hmm⟩ : ∃ m, mergeL l' = m := ⟨_, rfl⟩
      rw [hmm] at hm hmerge hml
      have hRl := rowsR_length HM.out (fun y hy => hf y (by omega))
      have hM2 := Lib.hid hmerge
      clear hmerge hp hso HC HR c0 hown hout
      obtain ⟨q, cap2, rfl⟩ : ∃ q cap2, v2 = .slice q m.length cap2 := by
        rcases hm.2 with ⟨rfl, h0⟩ | ⟨g', cap', cur, rfl, -⟩
        · exact ⟨_, _, by rw [h0]⟩
        · exact ⟨_, _, rfl⟩
      obtain ⟨n, hn⟩ : ∃ n, m.length = n := ⟨_, rfl⟩
      rw [hn] at hm hml ⊢
      go_wp2_with fail
      obtain ⟨R, hR⟩ : ∃ R, rowsR ms k = R := ⟨_, rfl⟩
      rw [hR] at hout2 hRl
      have hgs := hg.size
      have hRl2 : R.length ≤ 256000000 := by
        have : k * 1000000 ≤ 255 * 1000000 := Nat.mul_le_mul_right _ (by omega)
        omega
      obtain ⟨Z, hZ⟩ : ∃ Z, wr.heap.size = Z := ⟨_, rfl⟩
      rw [hZ] at hm hr0 hgs hbsz
      clear hZ
      go_loopw [4, 21] (fun vo i wq => ∃ j : Nat, j ≤ n ∧ i = .int .i64 j ∧ wq.ownsRow B 72 3 vo (R ++ rowR k (m.take j)).length (flatE encR (R ++ rowR k (m.take j))) ∧ w2.grownBy wq row0 ∧ (vo.ownBlock = row0 ∨ ∀ g, vo.ownBlock = some g → w2.heap.size ≤ g)) (fun _ i _ => n - (intOf i).toNat)
      case atStart => exact ⟨0, Nat.zero_le _, rfl, by simpa [rowR] using hout2, ⟨rfl, rfl, rfl, Nat.le_refl _, fun _ _ _ => rfl⟩, .inl hrow0⟩
      case round =>
        obtain ⟨j, hj, rfl, hown, hgq, hor⟩ := hrel
        by_cases hjn : j < n
        · obtain ⟨g3, cap3, hq3, hb3, hl3⟩ := hm.form (by omega)
          simp only [Value.slice.injEq, true_and] at hq3
          obtain ⟨rfl, rfl⟩ := hq3
          have hL := Lst_of_own encS_len hm hn.symm
          obtain ⟨A', c', e', -, -, hcl⟩ := hL
          simp only [Value.slice.injEq] at e'
          obtain ⟨e1, -, -⟩ := e'
          obtain ⟨b', off', e', hbl', hcc⟩ := hcl (by omega)
          rw [← e1] at e'
          cases e'
          clear e1
          obtain ⟨⟨a, t⟩, hx⟩ : ∃ x, m[j]? = some x := ⟨_, List.getElem?_eq_getElem (by omega)⟩
          have hne3 : some g3 ≠ row0 := fun e => by have := (hr0 g3 e.symm).2; omega
          have m0 := (hgq.cell_far ⟨g3, 0 + j * 2 + 0, none⟩ hbl' hne3).trans (hcc j 0 (a, t) _ hx rfl)
          have m1 := (hgq.cell_far ⟨g3, 0 + j * 2 + 1, none⟩ hbl' hne3).trans (hcc j 1 (a, t) _ hx rfl)
          simp only [Nat.zero_add, Nat.add_zero] at m0 m1
          have hqs := hgq.size
          have hg3q : g3 < wr.heap.size := by omega
          have hjn' : (j : Int) < n := by omega
          have HX := Lib.hid hx
          clear hx hcc hcl
          obtain ⟨i0, hi, hz0, hz1, hz2⟩ := info_parts infoRun
          obtain ⟨L, hL⟩ : ∃ L, R ++ rowR k (m.take j) = L := ⟨_, rfl⟩
          rw [hL] at hown
          have hLl : L.length ≤ 257000000 := by rw [← hL]; simp [rowR]; omega
          have hown4 := (hown.alloc (.cells #[.int .i64 a, .int .i64 t] 176)).alloc (.cells #[.int .i64 k, .int .i64 a, .int .i64 t] 72)
          have hBq : B ≤ wr.heap.size := by omega
          go_wp2_with (at_builtin; refine wpList_append_lies _ rfl _ _ _ rfl B 72 i0 _ 3 24 Try.underlying22 hi hz0 hz1 hz2 rfl (by omega) u4 L.length (flatE encR L) rfl hown4 ⟨wr.heap.size + 1, 0, none⟩ 1 1 [.int .i64 k, .int .i64 a, .int .i64 t] rfl rfl (newsLit (cs := #[.int .i64 k, .int .i64 a, .int .i64 t]) (by simp)) (by simp [Value.oneCell']) (by omega) (by unfold maxLen; omega) (by omega) (by simp; omega) (wr.heap.size + 2) (by simp) ?_; intro gg cap5 w5 hown5 hgrow hat hlt5)
          go_roundw
          case rel =>
            have hnew : R ++ rowR k (m.take (j + 1)) = L ++ [((k : Int), a, t)] := by
              rw [← hL, List.take_add_one, HX.out]
              simp [rowR]
            refine ⟨j + 1, by omega, by go_num, ?_, ?_, ?_⟩
            · rw [hnew, flatE_append, List.length_append]
              exact hown5
            · refine ⟨hgrow.os.trans hgq.os, hgrow.tape.trans hgq.tape, hgrow.output.trans hgq.output, by have := hgrow.size; simp at this; omega, fun kk hkk hne => ?_⟩
              have h1 : ((wr.alloc (.cells #[.int .i64 a, .int .i64 t] 176)).alloc (.cells #[.int .i64 k, .int .i64 a, .int .i64 t] 72)).heap[kk]? = wr.heap[kk]? := by
                rw [Below.heap_alloc _ _ _ (by simp; omega), Below.heap_alloc _ _ _ (by omega)]
              refine ((hgrow.block kk (by simp; omega) ?_).trans h1).trans (hgq.block kk hkk hne)
              rcases hor with h | h
              · rw [h]; exact hne
              · intro e
                have := h kk e.symm
                omega
            · rcases hat with h | h
              · rcases hor with h' | h'
                · exact .inl (by rw [← h', h]; rfl)
                · refine .inr fun g hg' => ?_
                  simp [Value.ownBlock] at hg'
                  subst hg'
                  exact h' _ h
              · refine .inr fun g hg' => ?_
                simp [Value.ownBlock] at hg'
                omega
          case measure => simp [intOf]; omega
        · have hjn2 : j = n := by omega
          subst hjn2
          have hne0 : some b ≠ row0 := fun e => by have := (hr0 b e.symm).1; omega
          rw [List.take_of_length_le (by omega)] at hown
          have hms2 : ∀ y, y < k + 1 → MergeOf (f y) (upd ms k m y) := fun y hy => by
            by_cases e : y = k
            · subst e; rw [upd_same]; exact hM2.out
            · rw [upd_other _ _ e]; exact HM.out y (by omega)
          have hRn : rowsR (upd ms k m) (k + 1) = R ++ rowR k m := by rw [rowsR_succ, rowsR_upd, upd_same, hR]
          have hM3 := Lib.hid hms2
          clear hms2
          go_wp2_with fail
          go_roundw
          case rel =>
            refine ⟨k + 1, by omega, by go_num, upd ms k m, hM3.out, by rw [hRn]; exact hown, fun i hi => (hgq.cell_far ⟨b, i, none⟩ (by show b < w2.heap.size; omega) hne0).trans (hcell2.out i hi), fun i hki hi => (hrows2.out i hki hi).kept hgq ?_, hb2.grown hgq (by omega) (fun g hg' => by have := (hr0 g hg').1; omega)⟩
            cases hv : (vs i).ownBlock with
            | none => exact .inl rfl
            | some g2 =>
              refine .inr fun hh => ?_
              have h1 := (ownBlock_lt (HT.out.own i hi) hv).2
              have h2 := (hr0 g2 hh.symm).1
              omega
          case measure => simp [intOf]; omega
    · have hke : k = 256 := by omega
      subst hke
      have hL := Lst_of_own encR_len hout rfl
      obtain ⟨R, hR⟩ : ∃ R, rowsR ms 256 = R := ⟨_, rfl⟩
      have hreg : RegOf f R := ⟨ms, hms, hR.symm⟩
      rw [hR] at hL hout
      have hLs := hL
      obtain ⟨A, cap, rfl, -, -, -⟩ := hL
      have HL := Lib.hid hLs
      have HG := Lib.hid hreg
      clear hLs hreg hms hrows hcell hout h
      by_cases hlen : R.length ≤ 8192
      · have hlen' : ¬ (8192 : Int) < (R.length : Int) := by omega
        go_wp2_with fail
        refine bodyPost_ret (v := .tuple #[.slice A R.length cap, .int .i64 0]) (by simp [results, Try.results55, go_sem]) rfl ⟨⟨R, HG.out, _, by rw [if_pos hlen], by rw [if_pos hlen]; exact HL.out⟩, hb⟩
      · have hlen' : (8192 : Int) < (R.length : Int) := by omega
        go_wp2_with fail
        refine bodyPost_ret (v := .tuple #[.slice none 0 0, .int .i64 3]) (by simp [results, Try.results55, go_sem]) rfl ⟨⟨R, HG.out, _, by rw [if_neg hlen], by rw [if_neg hlen]; exact Lst.nil _⟩, hb⟩
end Go.Proofs.Ytnbdnnbeiohmgaa
/- grid.filled. -/
namespace Go.Proofs.Ytnbdnnbeiohmgaa
open Go.RowKit Go.Shelf Go.Lib

theorem zeroTable : ∀ i, i < 256 → (Try.zeroCells100)[i]? = some (.slice none 0 0) := by
  have h : Try.zeroCells100 = Array.replicate 256 (.slice none 0 0) := by kernel_rfl
  intro i hi
  rw [h]
  simp [hi]

/-- a new table -/
theorem Tab.new (w : World) (b : Nat) (hb : w.heap.size = b) : Tab (w.alloc (.cells Try.zeroCells100 100)) b (fun _ => .slice none 0 0) (fun _ => []) := by
  subst hb
  have hh : (w.alloc (.cells Try.zeroCells100 100)).heap[w.heap.size]? = some (.cells Try.zeroCells100 100 (0, 0)) := heap_alloc_new w _
  refine ⟨by simp, fun i hi => ?_, fun i hi => ?_, fun i hi => World.ownsRow_nil _ _ _ _, fun i j _ _ _ g hg => by simp [Value.ownBlock] at hg⟩
  · simp only [World.cell?, hh]
    simpa using zeroTable i hi
  · simp only [World.frozen?, hh]
    simp

/-- the table that filled lays -/
def fillF (W : Int) (row : Nat → Int × Int) (n : Nat) : Nat → List S2 := fun y => if y < n then (if max 0 (row y).1 < min ((row y).2 + 1) W then [(max 0 (row y).1, min ((row y).2 + 1) W)] else []) else []
theorem fillF_len (W : Int) (row : Nat → Int × Int) (n i : Nat) : (fillF W row n i).length ≤ 1 := by
  unfold fillF
  split
  · split <;> simp
  · simp
theorem fillF_mem {W : Int} {row : Nat → Int × Int} {n i : Nat} {s : S2} (h : s ∈ fillF W row n i) : 0 ≤ s.1 ∧ s.1 < s.2 ∧ s.2 ≤ W := by
  unfold fillF at h
  split at h
  · split at h
    · simp at h
      subst h
      simp only
      omega
    · simp at h
  · simp at h
theorem fillF_succ {W H : Int} {row : Nat → Int × Int} {k : Nat} (hk : (k : Int) < H) : addF W H k (row k).1 ((row k).2 + 1) (fillF W row k) = fillF W row (k + 1) := by
  have hin : inB (k : Int) 0 (H - 1) = true := by simp [inB]; omega
  funext y
  by_cases h : max 0 (row k).1 < min ((row k).2 + 1) W
  · rw [addF_yes (by simp only [addOK, hin, Bool.true_and, decide_eq_true_eq]; exact h), Int.toNat_natCast]
    by_cases e : y = k
    · subst e
      rw [upd_same]
      have h1 : y < y + 1 := by omega
      simp only [fillF, Nat.lt_irrefl, if_false, List.nil_append, h1, if_true]
      rw [if_pos h]
    · rw [upd_other _ _ e]
      by_cases hy : y < k
      · have h1 : y < k + 1 := by omega
        simp only [fillF, hy, h1, if_true]
      · have h1 : ¬ y < k + 1 := by omega
        simp only [fillF, hy, h1, if_false]
  · rw [addF_no (by simp only [addOK, hin, Bool.true_and, decide_eq_false_iff_not]; exact h)]
    by_cases hy : y < k
    · have h1 : y < k + 1 := by omega
      simp only [fillF, hy, h1, if_true]
    · by_cases e : y = k
      · subst e
        have h1 : y < y + 1 := by omega
        simp only [fillF, hy, h1, if_true, if_false]
        rw [if_neg h]
      · have h1 : ¬ y < k + 1 := by omega
        simp only [fillF, hy, h1, if_false]

set_option maxRecDepth 100000 in
set_option maxHeartbeats 8000000 in
theorem filled_gr (W H S : Int) (vL : Value) (g : Nat) (cb : Array Value) (row : Nat → Int × Int) (w : World) (hW : 1 ≤ W ∧ W ≤ 256) (hH : 1 ≤ H ∧ H ≤ 256) (eg : ∀ args w, (callFunc g args).run Try.prog w = .ok (.enter g args) w)
    (hrow : ∀ (y : Nat) (W' : World), (y : Int) < H → Below w.heap.size w W' → Calls Try.prog g (#[.int .i64 y] ++ cb) W' fun e w'' => e = .returned (.tuple #[.int .i64 (row y).1, .int .i64 (row y).2]) ∧ Below W'.heap.size W' w'')
    (hb : ∀ y, -1152921504606846976 ≤ (row y).2 ∧ (row y).2 ≤ 1152921504606846976) :
    Calls Try.prog 69 #[.agg #[.int .i64 W, .int .i64 H, .int .i64 S, vL], .func (.func g) #[] cb] w fun e w' =>
      (∃ R, RegOf (fillF W row H.toNat) R ∧ ∃ v, e = .returned (.tuple #[v, .int .i64 (if R.length ≤ 8192 then 0 else 3)]) ∧ Runs w' v (if R.length ≤ 8192 then R else [])) ∧ Below w.heap.size w w' := by
  have HR := Lib.hid hrow
  have HB := Lib.hid hb
  clear hrow hb
  go_enter Try.func69, Try.ntmps69
  go_wp2_with fail
  have b1 := (Below.refl w.heap.size w).alloc (Nat.le_refl _) (.cells #[.int .i64 W, .int .i64 H, .int .i64 S, vL] 24)
  have T0 := Tab.new (w.alloc (.cells #[.int .i64 W, .int .i64 H, .int .i64 S, vL] 24)) (w.heap.size + 1) (by simp)
  have c0 : (w.alloc (.cells #[.int .i64 W, .int .i64 H, .int .i64 S, vL] 24)).cell? ⟨w.heap.size, 0, none⟩ = some (.int .i64 W) := by simp [go_sem]
  have c1 : (w.alloc (.cells #[.int .i64 W, .int .i64 H, .int .i64 S, vL] 24)).cell? ⟨w.heap.size, 1, none⟩ = some (.int .i64 H) := by simp [go_sem]
  have c2 : (w.alloc (.cells #[.int .i64 W, .int .i64 H, .int .i64 S, vL] 24)).cell? ⟨w.heap.size, 2, none⟩ = some (.int .i64 S) := by simp [go_sem]
  have c3 : (w.alloc (.cells #[.int .i64 W, .int .i64 H, .int .i64 S, vL] 24)).cell? ⟨w.heap.size, 3, none⟩ = some vL := by simp [go_sem]
  have z1 : (w.alloc (.cells #[.int .i64 W, .int .i64 H, .int .i64 S, vL] 24)).heap.size = w.heap.size + 1 := by simp
  obtain ⟨w1, hw1⟩ : ∃ w1, w.alloc (.cells #[.int .i64 W, .int .i64 H, .int .i64 S, vL] 24) = w1 := ⟨_, rfl⟩
  rw [hw1] at b1 T0 c0 c1 c2 c3 z1 ⊢
  clear hw1
  have b2 := b1.alloc (by omega) (.cells Try.zeroCells100 100)
  have hlt1 : w.heap.size < w1.heap.size := by omega
  have c0 := (World.cell?_alloc_lt w1 (.cells Try.zeroCells100 100) ⟨w.heap.size, 0, none⟩ hlt1).trans c0
  have c1 := (World.cell?_alloc_lt w1 (.cells Try.zeroCells100 100) ⟨w.heap.size, 1, none⟩ hlt1).trans c1
  have c2 := (World.cell?_alloc_lt w1 (.cells Try.zeroCells100 100) ⟨w.heap.size, 2, none⟩ hlt1).trans c2
  have c3 := (World.cell?_alloc_lt w1 (.cells Try.zeroCells100 100) ⟨w.heap.size, 3, none⟩ hlt1).trans c3
  obtain ⟨w2, hw2⟩ : ∃ w2, w1.alloc (.cells Try.zeroCells100 100) = w2 := ⟨_, rfl⟩
  rw [hw2] at b2 T0 c0 c1 c2 c3 ⊢
  clear hw2 hlt1 z1 b1
  obtain ⟨B, hB⟩ : ∃ B, w.heap.size = B := ⟨_, rfl⟩
  rw [hB] at T0 c0 c1 c2 c3 ⊢
  have hBl := T0.lt
  have T0' : Tab w2 (B + 1) (fun _ => .slice none 0 0) (fillF W row 0) := T0
  clear T0
  go_loopw [14] (fun i wr => ∃ k : Nat, (k : Int) ≤ H ∧ i = .int .i64 k ∧ (∃ vs, Tab wr (B + 1) vs (fillF W row k)) ∧ wr.cell? ⟨B, 0, none⟩ = some (.int .i64 W) ∧ wr.cell? ⟨B, 1, none⟩ = some (.int .i64 H) ∧ wr.cell? ⟨B, 2, none⟩ = some (.int .i64 S) ∧ wr.cell? ⟨B, 3, none⟩ = some vL ∧ Below B w wr) (fun i _ => H.toNat - (intOf i).toNat)
  case atStart => exact ⟨0, by simp; omega, rfl, ⟨_, T0'⟩, c0, c1, c2, c3, by rw [← hB]; exact b2⟩
  case round =>
    obtain ⟨k, hk, rfl, ⟨vs, hT⟩, d0, d1, d2, d3, hbw⟩ := hrel
    clear c0 c1 c2 c3 T0' b2
    have hBw := hT.lt
    by_cases hlt : (k : Int) < H
    · have hcall := HR.out k wr hlt (by rw [hB]; exact hbw)
      obtain ⟨⟨A, T⟩, hrk⟩ : ∃ p, row k = p := ⟨_, rfl⟩
      have hTb := HB.out k
      rw [hrk] at hcall hTb
      dsimp only at hcall hTb
      have eT : wrap64 (T + 1) = T + 1 := wrapId _ (by omega) (by omega)
      have HC := Lib.hid hcall
      have HK := Lib.hid hrk
      clear hcall hrk
      go_wp2_with fail
      refine HC.out.mono ?_
      rintro e w3 ⟨rfl, hb3⟩
      have hT3 := hT.below hb3
      have d0 := (hb3.cell (p := ⟨B, 0, none⟩) (by show B < wr.heap.size; omega)).trans d0
      have d1 := (hb3.cell (p := ⟨B, 1, none⟩) (by show B < wr.heap.size; omega)).trans d1
      have d2 := (hb3.cell (p := ⟨B, 2, none⟩) (by show B < wr.heap.size; omega)).trans d2
      have d3 := (hb3.cell (p := ⟨B, 3, none⟩) (by show B < wr.heap.size; omega)).trans d3
      have hb4 := hbw.trans (hb3.mono (by omega))
      have hadd := add_gr W H S k A (T + 1) vL (B + 1) vs (fillF W row k) w3 hW hH hT3 (fun i _ => by have := fillF_len W row k i; omega)
      have hsucc := fillF_succ (W := W) (row := row) hlt
      rw [HK.out] at hsucc
      rw [hsucc] at hadd
      have hB3 : B < w3.heap.size := by have := hT3.lt; omega
      have HA := Lib.hid hadd
      clear hadd hsucc hT hT3 hb3 HC
      go_wp2_with fail
      refine HA.out.mono ?_
      rintro e w4 ⟨rfl, ⟨vs', hT4, -⟩, hb4'⟩
      go_wp2_with fail
      go_roundw
      case rel => exact ⟨k + 1, by push_cast; omega, by go_num, ⟨vs', hT4⟩, (hb4'.cell (p := ⟨B, 0, none⟩) (by simp)).trans d0, (hb4'.cell (p := ⟨B, 1, none⟩) (by simp)).trans d1, (hb4'.cell (p := ⟨B, 2, none⟩) (by simp)).trans d2, (hb4'.cell (p := ⟨B, 3, none⟩) (by simp)).trans d3, hb4.trans (hb4'.mono (by omega))⟩
      case measure => simp [intOf]; omega
    · have hke : (k : Int) = H := by omega
      have hkn : H.toNat = k := by omega
      go_wp2_with fail
      have hreg := region_gr (B + 1) vs (fillF W row k) wr hT (fun i _ => by have := fillF_len W row k i; omega) (fun i _ s hs => by have := fillF_mem hs; omega)
      have HG := Lib.hid hreg
      rw [← hkn] at HG
      clear hreg hT
      refine HG.out.mono ?_
      rintro e w3 ⟨⟨R, hR, v, rfl, hv⟩, hb3⟩
      have HR2 := Lib.hid hR
      have HV := Lib.hid hv
      clear hR hv
      obtain ⟨E, hE⟩ : ∃ E : Int, (if R.length ≤ 8192 then 0 else 3) = E := ⟨_, rfl⟩
      rw [hE]
      go_wp2_with fail
      refine bodyPost_ret (v := .tuple #[v, .int .i64 E]) (by simp [results, Try.results69, go_sem]) rfl ⟨⟨R, HR2.out, v, by rw [hE], HV.out⟩, ?_⟩
      rw [hB]
      exact hbw.trans (hb3.mono (by omega))
end Go.Proofs.Ytnbdnnbeiohmgaa
