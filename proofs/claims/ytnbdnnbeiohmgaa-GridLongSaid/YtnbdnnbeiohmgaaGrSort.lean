/- slices.SortFunc over the spans of a row. -/
import Derived.Test.YtnbdnnbeiohmgaaGrJoin
import Derived.Shelf.SlSortCmp.NoneTotal
namespace Go.Proofs.Ytnbdnnbeiohmgaa
open Go.RowKit Go.Shelf Go.Sort Go.Lib

abbrev Sp := Fin 257 × Int
def encSp (x : Sp) : List Value := [.int .i64 (x.1.val : Int), .int .i64 x.2]
def mkSp (s : S2) : Sp := (⟨min s.1.toNat 256, by omega⟩, s.2)
def toS (x : Sp) : S2 := ((x.1.val : Int), x.2)
theorem toS_mk {s : S2} (h : 0 ≤ s.1 ∧ s.1 ≤ 256) : toS (mkSp s) = s := by
  obtain ⟨a, b⟩ := s
  simp only [toS, mkSp]
  simp only at h
  have : ((min a.toNat 256 : Nat) : Int) = a := by omega
  rw [this]
def cfSp (x y : Sp) : Int := (x.1.val : Int) - y.1.val
theorem ltSp (x y : Sp) : ltOf cfSp x y = decide ((x.1.val : Int) < y.1.val) := by
  unfold ltOf cfSp
  by_cases h : (x.1.val : Int) < y.1.val
  · simp [h]; omega
  · simp [h]; omega
theorem swoSp : SWO (ltOf cfSp) where
  irrefl x := by rw [ltSp]; simp
  trans x y z h1 h2 := by rw [ltSp] at *; simp at *; omega
  ntrans x y z h1 h2 := by rw [ltSp] at *; simp at *; omega

theorem cmpSp (blk off size : Nat) (w : World) : CmpLays Try.prog 106 #[] encSp 2 cfSp blk off size w := by
  intro m os dk _ x y
  have h := cmp_gr (x.1.val : Int) x.2 (y.1.val : Int) y.2 (sortWorldK encSp 2 w blk off m dk os)
  rw [wrapId ((x.1.val : Int) - y.1.val) (by omega) (by omega)] at h
  exact h

/-- a row's cells hold its spans -/
theorem holdsSp {w : World} {base g cap n : Nat} {e : TypeId} {l : List S2} (h : w.ownsRow base e 2 (.slice (some ⟨g, 0, none⟩) n cap) n (flatE encS l)) (hn : n = l.length) (hl : ∀ s, s ∈ l → 0 ≤ s.1 ∧ s.1 ≤ 256) :
    HoldsK encSp 2 w g 0 (l.map mkSp).toArray := by
  subst hn
  intro t ht
  simp at ht
  rcases h.2 with ⟨h0, -⟩ | ⟨g', cap', cur, hv, -, hh, -, -, -, htk⟩
  · cases h0
  cases hv
  refine ⟨?_, by simp [World.frozen?, hh]⟩
  have hk : t / 2 < l.length := by omega
  rw [get_flatK _ _ _ _ (by simpa using ht)]
  have e1 : (l.map mkSp).toArray[t / 2]! = mkSp l[t / 2] := by simp [hk]
  rw [e1]
  have hm : l[t / 2] ∈ l := List.getElem_mem hk
  have hb := hl _ hm
  have e2 : encSp (mkSp l[t / 2]) = encS l[t / 2] := by
    have := toS_mk hb
    simp only [toS] at this
    simp only [encSp, encS]
    rw [← this]
    simp [mkSp]
  rw [e2]
  have hi : t % 2 < 2 := Nat.mod_lt _ (by omega)
  have e3 : (encS l[t / 2])[t % 2]? = some ((encS l[t / 2])[t % 2]!) := by
    have : t % 2 = 0 ∨ t % 2 = 1 := by omega
    rcases this with h | h <;> rw [h] <;> rfl
  have e4 := flatE_get encS_len l (t / 2) (t % 2) _ _ (List.getElem?_eq_getElem hk) e3
  rw [show t / 2 * 2 + t % 2 = t by omega] at e4
  have e5 : (cur.toList.take (l.length * 2))[t]? = some ((encS l[t / 2])[t % 2]!) := by rw [htk]; exact e4
  rw [List.getElem?_take_of_lt (by omega), Array.getElem?_toList] at e5
  simp only [World.cell?, hh, Nat.zero_add]
  simpa using e5

theorem grownSp {w : World} {g n : Nat} {os : Array Obj} (d : Array Sp) : w.grownBy (sortWorldK encSp 2 w g 0 n d os) (some g) := by
  refine ⟨rfl, rfl, rfl, by simp [sortWorldK, putRowK], fun k hk hne => ?_⟩
  unfold sortWorldK
  rw [heap_grow_old _ _ (by simpa [putRowK] using hk)]
  have : g ≠ k := fun e => hne (by rw [e])
  simp [putRowK, putRow, mapBlock, Sort.ahead, Array.getElem?_modify, this]

theorem cellsSp {w : World} {g n : Nat} {os : Array Obj} {d0 d : Array Sp} (hg : g < w.heap.size) (h : HoldsK encSp 2 w g 0 d0) (hs : d.size = d0.size) (k : Nat) (x : Sp) (hx : d.toList[k]? = some x) :
    (sortWorldK encSp 2 w g 0 n d os).cell? ⟨g, 0 + k * 2, none⟩ = some (.int .i64 (x.1.val : Int)) ∧ (sortWorldK encSp 2 w g 0 n d os).cell? ⟨g, 0 + k * 2 + 1, none⟩ = some (.int .i64 x.2) := by
  have hk : k < d.size := by
    have := (List.getElem?_eq_some_iff.1 hx).1
    simpa using this
  have key : ∀ i v, i < 2 → (encSp x)[i]? = some v → (sortWorldK encSp 2 w g 0 n d os).cell? ⟨g, 0 + (k * 2 + i), none⟩ = some v := by
    intro i v hi hv
    have h' : Holds id (Sort.ahead w n) g 0 (flatK encSp 2 d0) := h
    have c := cell?_putRow id (Sort.ahead w n) g 0 (flatK encSp 2 d0) (flatK encSp 2 d) h' (by simp [hs]) (k * 2 + i) (by simp; omega)
    rw [get_flatK _ _ _ _ (by omega), show (k * 2 + i) / 2 = k by omega, show (k * 2 + i) % 2 = i by omega] at c
    have e1 : d[k]! = x := by
      rw [Array.getElem?_toList] at hx
      simp [Array.getElem!_eq_getD, Array.getD_eq_getD_getElem?, hx]
    rw [e1] at c
    have e2 : (encSp x)[i]! = v := by simp [List.getElem!_eq_getElem?_getD, hv]
    rw [e2] at c
    have hgg : g < (putRow id (Sort.ahead w n) g 0 (flatK encSp 2 d)).heap.size := by simpa using hg
    unfold sortWorldK
    exact (World.cell?_of_block (heap_grow_old _ _ hgg)).trans c
  exact ⟨by simpa using key 0 _ (by omega) rfl, by simpa [Nat.add_assoc] using key 1 _ (by omega) rfl⟩

/-- the sort of a row: its spans in order -/
theorem sort_gr (v : Value) (l : List S2) (base : Nat) (w : World) (h : w.ownsRow base 176 2 v l.length (flatE encS l)) (hl : ∀ s, s ∈ l → 0 ≤ s.1 ∧ s.1 ≤ 256) (hcap : l.length ≤ 1000000000) :
    Calls Try.prog 153 #[v, .func (.func 106) #[] #[]] w fun e w' => e = .returned (.tuple #[]) ∧ w.grownBy w' v.ownBlock ∧
      ∃ l' : List S2, l'.Perm l ∧ l'.Pairwise (fun a b => a.1 ≤ b.1) ∧ ∀ g cap, v = .slice (some ⟨g, 0, none⟩) l.length cap → 0 < l.length → ∀ (k : Nat) (s : S2), l'[k]? = some s → w'.cell? ⟨g, k * 2, none⟩ = some (.int .i64 s.1) ∧ w'.cell? ⟨g, k * 2 + 1, none⟩ = some (.int .i64 s.2) := by
  rcases Nat.eq_zero_or_pos l.length with h0 | h0
  · have hl0 : l = [] := List.eq_nil_of_length_eq_zero h0
    subst hl0
    obtain ⟨p, cap, rfl⟩ : ∃ p cap, v = .slice p 0 cap := by
      rcases h.2 with ⟨rfl, -⟩ | ⟨g, cap, cur, rfl, -⟩
      · exact ⟨_, _, rfl⟩
      · exact ⟨_, _, rfl⟩
    refine (AnyF.slices_SortFunc_none Try.sortSp p cap (.func (.func 106) #[] #[]) w).mono ?_
    rintro e w' ⟨rfl, rfl⟩
    exact ⟨rfl, ⟨rfl, rfl, rfl, Nat.le_refl _, fun _ _ _ => rfl⟩, [], List.Perm.refl _, List.Pairwise.nil, fun g cap _ h => by simp at h⟩
  · obtain ⟨g, cap, rfl, hb, hlt⟩ := h.form h0
    have hH := holdsSp h rfl hl
    have eg : ∀ args w, (callFunc 106 args).run Try.prog w = .ok (.enter 106 args) w := enters_of Try.func106 (by kernel_rfl) rfl
    have hsz : (l.map mkSp).toArray.size = l.length := by simp
    have hcon := AnyQ.slices_SortFunc Try.sortSp 2 Try.isAgg176 Try.sizeOf176 encSp (fun _ => rfl) (fun x v hv => by simp [encSp] at hv; rcases hv with rfl | rfl <;> rfl) cfSp swoSp 106 #[] g 0 cap (l.map mkSp).toArray w eg (cmpSp g 0 _ w) hH hlt (by rw [hsz]; omega)
    rw [hsz] at hcon
    refine hcon.mono ?_
    rintro e w' ⟨rfl, d', n, os, hp, hs, rfl⟩
    obtain ⟨hz, -, hpm⟩ := hp
    rw [hsz] at hz
    have x1 : d'.extract 0 l.length = d' := by rw [← hz]; exact Array.extract_size
    have x2 : (l.map mkSp).toArray.extract 0 l.length = (l.map mkSp).toArray := by
      have : l.length = (l.map mkSp).toArray.size := hsz.symm
      rw [this]
      exact Array.extract_size
    rw [x1, x2] at hpm
    have hpm2 := hpm.map toS
    have x3 : ((l.map mkSp).toArray.toList).map toS = l := by
      simp only [List.map_map]
      refine (List.map_congr_left (g := id) fun s hs => ?_).trans (List.map_id _)
      exact toS_mk (hl s hs)
    rw [x3] at hpm2
    refine ⟨rfl, grownSp d', d'.toList.map toS, hpm2, ?_, ?_⟩
    · rw [List.pairwise_iff_getElem]
      intro i j hi hj hij
      simp at hi hj
      have := hs i j (Nat.zero_le _) hij (by rw [← hz]; exact hj)
      rw [ltSp] at this
      simp only [getElem!_pos d' j hj, getElem!_pos d' i hi, decide_eq_false_iff_not] at this
      simp only [List.getElem_map, Array.getElem_toList, toS]
      omega
    · intro g' cap' e _ k s hk
      cases e
      rw [List.getElem?_map] at hk
      obtain ⟨x, hx, rfl⟩ := Option.map_eq_some_iff.1 hk
      have := cellsSp (n := n) (os := os) hlt hH (by rw [hz, hsz]) k x hx
      simpa [toS] using this
end Go.Proofs.Ytnbdnnbeiohmgaa
