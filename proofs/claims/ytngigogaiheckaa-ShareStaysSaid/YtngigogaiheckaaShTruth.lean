/- What the statements ask of what is shown: plain facts. -/
import Derived.Test.YtngigogaiheckaaShSee
namespace Go.Proofs.Ytngigogaiheckaa

/-- the statements of a picture that count, up to what is known -/
def seen (a : List Sd) : List Sd := betw a (fun _ => 0) (fun c => kn a ((c + 1 : Nat) : Int)) 8
theorem seen_uq {a said : List Sd} (ha : Nums a) (hu : Uq said) (sa : ∀ s, s ∈ a → s ∈ said) : Uq (seen a) := fun x hx y hy e =>
  hu x (sa x (betw_mem ha (fun c _ => Nat.le_refl _) hx).1) y (sa y (betw_mem ha (fun c _ => Nat.le_refl _) hy).1) e
theorem mem_seen {a said : List Sd} (hs : Nums said) (hu : Uq said) (sa : ∀ s, s ∈ a → s ∈ said) {s : Sd} : s ∈ seen a ↔ s ∈ said ∧ s.n ≤ (kn a s.c : Int) := by
  have ha : Nums a := hs.sub sa
  constructor
  · intro h
    obtain ⟨h1, c, n, hc, -, h3, h4, h5⟩ := betw_mem ha (fun c _ => Nat.le_refl _) h
    refine ⟨sa s h1, ?_⟩
    rw [h5, h4]
    exact_mod_cast h3
  · rintro ⟨h1, h2⟩
    have hn := hs s h1
    obtain ⟨n, hn1⟩ : ∃ n : Nat, s.n = n := ⟨s.n.toNat, by omega⟩
    obtain ⟨c, hc1⟩ : ∃ c : Nat, s.c = ((c + 1 : Nat) : Int) := ⟨(s.c - 1).toNat, by omega⟩
    obtain ⟨t, ht⟩ := kn_has ha (c := s.c) (n := n) (by omega) (by rw [hn1] at h2; exact_mod_cast h2)
    obtain ⟨h3, h4, h5⟩ := atP_some ht
    have e : t = s := hu t (sa t h3) s h1 ⟨h4, by rw [h5, hn1]⟩
    subst e
    refine betw_of (fun x hx y hy e => hu x (sa x hx) y (sa y hy) e) h3 hc1 hn1 (by omega) (by show 0 < n; omega) ?_
    show n ≤ kn a ((c + 1 : Nat) : Int)
    rw [← hc1]
    rw [hn1] at h2
    exact_mod_cast h2
/-- is a statement taken back, as far as is known? -/
def backS (said a : List Sd) (s : Sd) : Bool := said.any fun t => decide (t.c = s.c) && decide (t.back = s.n) && decide (t.n ≤ (kn a s.c : Int))
theorem backS_eq {a said : List Sd} (hs : Nums said) (hu : Uq said) (sa : ∀ s, s ∈ a → s ∈ said) (s : Sd) : backS said a s = backed (seen a) s := by
  rw [Bool.eq_iff_iff]
  unfold backS backed
  simp only [List.any_eq_true, Bool.and_eq_true, decide_eq_true_eq]
  constructor
  · rintro ⟨t, h1, ⟨h2, h3⟩, h4⟩
    exact ⟨t, (mem_seen hs hu sa).2 ⟨h1, by rw [h2]; exact h4⟩, h2, h3⟩
  · rintro ⟨t, h1, h2, h3⟩
    have := (mem_seen hs hu sa).1 h1
    exact ⟨t, this.1, ⟨h2, h3⟩, by rw [← h2]; exact this.2⟩
theorem vals_two {l : List Sd} {x : Sd} (hx : x ∈ l) : (1 < (valsOf l).length) ↔ ∃ s, s ∈ l ∧ s.val ≠ x.val := by
  have hm : ∀ v, v ∈ valsOf l ↔ ∃ s, s ∈ l ∧ s.val = v := fun v => by
    unfold valsOf
    rw [mem_once, List.mem_map]
  have hn : (valsOf l).Nodup := nodup_once _
  constructor
  · intro h
    apply Classical.byContradiction
    intro hc
    have := nodup_len (m := [x.val]) hn fun v hv => by
      obtain ⟨s, h1, h2⟩ := (hm v).1 hv
      have h3 : s.val = x.val := Classical.byContradiction fun h => hc ⟨s, h1, h⟩
      rw [← h2, h3]
      simp
    simp at this
    omega
  · rintro ⟨s, h1, h2⟩
    have := nodup_len (l := [s.val, x.val]) (m := valsOf l) (by simp [h2]) fun v hv => by
      simp at hv
      rcases hv with rfl | rfl
      · exact (hm _).2 ⟨s, h1, rfl⟩
      · exact (hm _).2 ⟨x, hx, rfl⟩
    simp at this
    omega
section
variable {a said : List Sd} {out : List (Sd × Int)} (hs : Nums said) (hu : Uq said) (sa : ∀ s, s ∈ a → s ∈ said) (h : Shows (seen a) out)
include hs hu sa h
theorem true_stated {x : Sd × Int} (hx : x ∈ out) : x.1 ∈ said ∧ x.1.n ≤ (kn a x.1.c : Int) := (mem_seen hs hu sa).1 (mem_live.1 (mem_grp.1 (h.each x hx).1.1).1).1
theorem true_bad {x : Sd × Int} (hx : x ∈ out) {s : Sd} (hm : s ∈ said) (hn : s.n ≤ (kn a s.c : Int)) : (backS said a s && decide (s = x.1) || !backS said a s && decide (s.key = x.1.key) && decide (x.1.trust < s.trust)) = false := by
  have h1 := h.each x hx
  have h2 := mem_live.1 (mem_grp.1 h1.1.1).1
  rw [backS_eq hs hu sa s]
  cases e : backed (seen a) s with
  | true =>
    simp only [Bool.true_and, Bool.not_true, Bool.false_and, Bool.or_false, decide_eq_false_iff_not]
    intro e2
    rw [e2, h2.2.2] at e
    cases e
  | false =>
    simp only [Bool.false_and, Bool.not_false, Bool.true_and, Bool.false_or, Bool.and_eq_false_iff, decide_eq_false_iff_not]
    by_cases hk : s.key = x.1.key
    · right
      have h3 : s ∈ grp (seen a) x.1.key := mem_grp.2 ⟨mem_live.2 ⟨(mem_seen hs hu sa).2 ⟨hm, hn⟩, by rw [hk]; exact h2.2.1, e⟩, hk⟩
      have h4 := h1.1.2 s h3
      unfold cmpSd at h4
      split at h4 <;> omega
    · exact .inl hk
theorem true_others {x : Sd × Int} (hx : x ∈ out) : (said.any fun s => decide (s.n ≤ (kn a s.c : Int)) && (!backS said a s && decide (s.key = x.1.key) && !decide (s.val = x.1.val))) = decide (0 < x.2) := by
  have h1 := h.each x hx
  have h2 := mem_live.1 (mem_grp.1 h1.1.1).1
  rw [Bool.eq_iff_iff, List.any_eq_true, decide_eq_true_eq, h1.2]
  have h3 := vals_two h1.1.1
  have h4 : (0 < ((valsOf (grp (seen a) x.1.key)).length : Int) - 1) ↔ 1 < (valsOf (grp (seen a) x.1.key)).length := by omega
  rw [h4, h3]
  constructor
  · rintro ⟨s, h5, h6⟩
    simp only [Bool.and_eq_true, decide_eq_true_eq, Bool.not_eq_true', decide_eq_false_iff_not] at h6
    rw [backS_eq hs hu sa s] at h6
    exact ⟨s, mem_grp.2 ⟨mem_live.2 ⟨(mem_seen hs hu sa).2 ⟨h5, h6.1⟩, by rw [h6.2.1.2]; exact h2.2.1, h6.2.1.1⟩, h6.2.1.2⟩, h6.2.2⟩
  · rintro ⟨s, h5, h6⟩
    have h7 := mem_grp.1 h5
    have h8 := mem_live.1 h7.1
    have h9 := (mem_seen hs hu sa).1 h8.1
    refine ⟨s, h9.1, ?_⟩
    simp only [Bool.and_eq_true, decide_eq_true_eq, Bool.not_eq_true', decide_eq_false_iff_not]
    rw [backS_eq hs hu sa s]
    exact ⟨h9.2, ⟨h8.2.2, h7.2⟩, h6⟩
end

/-! ### what comes and goes -/
/-- a picture that takes what another one knows and it does not, knows what both know -/
theorem needs {a b said : List Sd} (hs : Nums said) (hu : Uq said) (sa : ∀ s, s ∈ a → s ∈ said) (sb : ∀ s, s ∈ b → s ∈ said) {c : Nat} (hc : c < 8) :
    max (kn a ((c + 1 : Nat) : Int)) (kn b ((c + 1 : Nat) : Int)) ≤ kn (b ++ fresh b (betw a (fun c => kn b ((c + 1 : Nat) : Int)) (fun c => kn a ((c + 1 : Nat) : Int)) 8)) ((c + 1 : Nat) : Int) := by
  obtain ⟨M, hM⟩ : ∃ M, betw a (fun c => kn b ((c + 1 : Nat) : Int)) (fun c => kn a ((c + 1 : Nat) : Int)) 8 = M := ⟨_, rfl⟩
  have ha : Nums a := hs.sub sa
  have hb : Nums b := hs.sub sb
  have hua : Uq a := fun x hx y hy e => hu x (sa x hx) y (sa y hy) e
  rw [hM]
  have hsub : ∀ s, s ∈ b ++ fresh b M → s ∈ said := fun s h => (List.mem_append.1 h).elim (sb s) fun h => sa s (betw_mem ha (fun c _ => Nat.le_refl _) (hM ▸ fresh_sub b M s h)).1
  have hN : Nums (b ++ fresh b M) := hs.sub hsub
  have h1 : kn b ((c + 1 : Nat) : Int) ≤ kn (b ++ fresh b M) ((c + 1 : Nat) : Int) := kn_mono hb hN (fun s h => List.mem_append.2 (.inl h)) _
  refine Nat.max_le.2 ⟨?_, h1⟩
  rcases Nat.lt_or_ge (kn (b ++ fresh b M) ((c + 1 : Nat) : Int)) (kn a ((c + 1 : Nat) : Int)) with h2 | h2
  · exfalso
    have h3 := (kn_is hN ((c + 1 : Nat) : Int)).2
    obtain ⟨s, h4⟩ := kn_has ha (c := ((c + 1 : Nat) : Int)) (n := kn (b ++ fresh b M) ((c + 1 : Nat) : Int) + 1) (by omega) (by omega)
    obtain ⟨h5, h6, h7⟩ := atP_some h4
    have h8 : s ∈ M := by
      rw [← hM]
      exact betw_of hua h5 h6 h7 hc (by show kn b _ < _; omega) (by show _ ≤ kn a _; omega)
    have h9 := fresh_all b M s h8
    rw [h6, h7] at h9
    rw [show hasP (b ++ fresh b M) ((c + 1 : Nat) : Int) ((kn (b ++ fresh b M) ((c + 1 : Nat) : Int) + 1 : Nat) : Int) = false from h3] at h9
    cases h9
  · exact h2
/-- talk that goes on -/
theorem Wd.run_append (W : Wd) (l m : List Tk) : W.run (l ++ m) = (W.run l).run m := by simp [Wd.run, List.foldl_append]
theorem step_grows (W : Wd) (t : Tk) (i : Nat) : ∃ m, (W.step t).ar i = W.ar i ++ m := by
  unfold Wd.step
  split
  · split
    · by_cases e : i = t.who % 3
      · subst e
        exact ⟨_, up_same _ _ _⟩
      · exact ⟨[], by rw [List.append_nil]; exact up_other _ _ e⟩
    · exact ⟨[], (List.append_nil _).symm⟩
  · by_cases e : i = t.who % 3
    · subst e
      exact ⟨_, up_same _ _ _⟩
    · exact ⟨[], by rw [List.append_nil]; exact up_other _ _ e⟩
theorem run_grows (l : List Tk) (i : Nat) : ∀ W : Wd, ∃ m, (W.run l).ar i = W.ar i ++ m := by
  induction l with
  | nil => exact fun W => ⟨[], (List.append_nil _).symm⟩
  | cons t l ih =>
    intro W
    obtain ⟨m, hm⟩ := step_grows W t i
    obtain ⟨m', hm'⟩ := ih (W.step t)
    exact ⟨m ++ m', by show ((W.step t).run l).ar i = _; rw [hm', hm, List.append_assoc]⟩
end Go.Proofs.Ytngigogaiheckaa
