/- TracksReach: the plain law, of whole tracks. -/
import Derived.Test.YtnbdnnbeiohmgaaTrA
import Derived.Test.YtnbdnnbeiohmgaaTkA
namespace Go.Proofs.Ytnbdnnbeiohmgaa
open Go.RowKit
open Go.Proofs.Rings (Leg sg ab legOf nearLeg nearL)

theorem mem_legs {x : Leg} : ∀ {l : List (Int × Int)}, x ∈ legsW l ↔ ∃ (k : Nat) (a b : Int × Int), l[k]? = some a ∧ l[k + 1]? = some b ∧ x = legW a b
  | [] => by simp [legsW]
  | [s] => by
    simp only [legsW, List.not_mem_nil, false_iff, not_exists, not_and]
    intro k a b h1 h2
    simp at h2
  | s :: t :: l => by
    rw [legsW, List.mem_cons, mem_legs (l := t :: l)]
    constructor
    · rintro (rfl | ⟨k, a, b, h1, h2, rfl⟩)
      · exact ⟨0, s, t, rfl, rfl, rfl⟩
      · exact ⟨k + 1, a, b, by simpa using h1, by simpa using h2, rfl⟩
    · rintro ⟨k, a, b, h1, h2, rfl⟩
      cases k with
      | zero =>
        simp at h1 h2
        subst h1 h2
        exact .inl rfl
      | succ k => exact .inr ⟨k, a, b, by simpa using h1, by simpa using h2, rfl⟩
/-- a valid track of ints -/
structure Tr (l : List (Int × Int)) : Prop where
  ok : checkB l = true
  i : ∀ s, s ∈ l → i64 s.1 ∧ i64 s.2
theorem Tr.pair {l : List (Int × Int)} (h : Tr l) {k : Nat} {a b : Int × Int} (ha : l[k]? = some a) (hb : l[k + 1]? = some b) : Pair a b := by
  have hc := h.ok
  simp only [checkB, Bool.and_eq_true, List.all_eq_true] at hc
  have ma := List.mem_of_getElem? ha
  have mb := List.mem_of_getElem? hb
  refine ⟨h.i a ma, h.i b mb, hc.1.2 a ma, hc.1.2 b mb, ?_⟩
  have := hc.2 (legW a b) (mem_legs.2 ⟨k, a, b, ha, hb, rfl⟩)
  simpa using this
theorem rev_get {l : List (Int × Int)} {k : Nat} {a b : Int × Int} (ha : l.reverse[k]? = some a) (hb : l.reverse[k + 1]? = some b) : ∃ j : Nat, l[j]? = some b ∧ l[j + 1]? = some a := by
  have h1 : k + 1 < l.length := by
    have := (List.getElem?_eq_some_iff.1 hb).1
    simpa using this
  rw [List.getElem?_reverse (by omega)] at ha hb
  refine ⟨l.length - 1 - (k + 1), hb, ?_⟩
  rw [show l.length - 1 - (k + 1) + 1 = l.length - 1 - k by omega]
  exact ha
theorem Tr.back {l : List (Int × Int)} (h : Tr l) : Tr l.reverse := by
  refine ⟨?_, fun s hs => h.i s (by simpa using hs)⟩
  have hc := h.ok
  simp only [checkB, Bool.and_eq_true, List.all_eq_true, List.length_reverse] at hc ⊢
  refine ⟨⟨hc.1.1, fun s hs => hc.1.2 s (by simpa using hs)⟩, fun x hx => ?_⟩
  obtain ⟨k, a, b, h1, h2, rfl⟩ := mem_legs.1 hx
  obtain ⟨j, g1, g2⟩ := rev_get h1 h2
  have := (pair_back (h.pair g1 g2)).far
  simpa using this
theorem cov_iff {W H S w cx cy : Int} {l : List (Int × Int)} : cov W H S w l cx cy = true ↔ ∃ (k : Nat) (a b : Int × Int), l[k]? = some a ∧ l[k + 1]? = some b ∧ covL W H S w (legW a b) cx cy = true := by
  unfold cov
  rw [List.any_eq_true]
  constructor
  · rintro ⟨x, hx, hc⟩
    obtain ⟨k, a, b, h1, h2, rfl⟩ := mem_legs.1 hx
    exact ⟨k, a, b, h1, h2, hc⟩
  · rintro ⟨k, a, b, h1, h2, hc⟩
    exact ⟨_, mem_legs.2 ⟨k, a, b, h1, h2, rfl⟩, hc⟩
theorem reach_back1 {W H S w cx cy : Int} {l : List (Int × Int)} (hg : Sea4 W H S w) (h : Tr l) (hc : cov W H S w l.reverse cx cy = true) : cov W H S w l cx cy = true := by
  obtain ⟨k, a, b, h1, h2, hc⟩ := cov_iff.1 hc
  obtain ⟨j, g1, g2⟩ := rev_get h1 h2
  exact cov_iff.2 ⟨j, b, a, g1, g2, by rw [← cov_back hg (h.pair g1 g2)]; exact hc⟩
theorem reach_back {W H S w cx cy : Int} {l : List (Int × Int)} (hg : Sea4 W H S w) (h : Tr l) : cov W H S w l.reverse cx cy = cov W H S w l cx cy := by
  rw [Bool.eq_iff_iff]
  refine ⟨reach_back1 hg h, fun hc => reach_back1 hg h.back ?_⟩
  rw [List.reverse_reverse]
  exact hc
theorem reach_wider {W H S w w' cx cy : Int} {l : List (Int × Int)} (hg : Sea4 W H S w) (h : Tr l) (hw : w ≤ w') (hw' : w' ≤ 1048576) (hc : cov W H S w l cx cy = true) : cov W H S w' l cx cy = true := by
  obtain ⟨k, a, b, h1, h2, hc⟩ := cov_iff.1 hc
  exact cov_iff.2 ⟨k, a, b, h1, h2, cov_wider hg (h.pair h1 h2) hw hw' hc⟩
theorem reach_in {W H S w cx cy : Int} {l : List (Int × Int)} (hg : Sea4 W H S w) (h : Tr l) (hc : cov W H S w l cx cy = true) : (0 ≤ cx ∧ cx < W) ∧ 0 ≤ cy ∧ cy < H := by
  obtain ⟨k, a, b, h1, h2, hc⟩ := cov_iff.1 hc
  exact (cov_near hg (h.pair h1 h2) hc (px := 0) (py := 0) (by have := hg.S; omega) (by have := hg.S; omega)).2
theorem reach_near {W H S w cx cy px py : Int} {l : List (Int × Int)} (hg : Sea4 W H S w) (h : Tr l) (hc : cov W H S w l cx cy = true) (hx : 0 ≤ px ∧ px < S) (hy : 0 ≤ py ∧ py < S) :
    nearB l (cx * S + px, cy * S + py) w = true ∧ nearE l (cx * S + px, cy * S + py) w = 0 := by
  have hin := reach_in hg h hc
  obtain ⟨k, a, b, h1, h2, hc⟩ := cov_iff.1 hc
  have hn := (cov_near hg (h.pair h1 h2) hc hx hy).1
  obtain ⟨k1, -, -⟩ := corner hg.S hg.W (c := cx) (by omega)
  obtain ⟨k2, -, -⟩ := corner hg.S hg.H (c := cy) (by omega)
  have hok : nearOK l (cx * S + px, cy * S + py) w = true := by
    have o1 : okC (cx * S + px) = true := okC_of (by omega)
    have o2 : okC (cy * S + py) = true := okC_of (by omega)
    have o3 : withinB w 0 1048576 = true := by simp only [withinB, Bool.and_eq_true, decide_eq_true_eq]; exact hg.w
    simp only [nearOK, h.ok, okS, o1, o2, o3, Bool.and_self]
  refine ⟨?_, by simp [nearE, hok]⟩
  unfold nearB
  rw [hok, Bool.true_and, List.any_eq_true]
  exact ⟨_, mem_legs.2 ⟨k, a, b, h1, h2, rfl⟩, hn⟩
end Go.Proofs.Ytnbdnnbeiohmgaa
