/- Talk of centres: plain facts, no program in sight. -/
import Derived.Test.YtngigogaiheckaaShPlain
namespace Go.Proofs.Ytngigogaiheckaa

/-! ### valid statements -/
def smallC (b : UInt8) : Bool := decide (97 ≤ b.toNat) && decide (b.toNat ≤ 122)
def nameC (b : UInt8) : Bool := smallC b || (decide (48 ≤ b.toNat) && decide (b.toNat ≤ 57)) || decide (b.toNat = 45)
def valueC (b : UInt8) : Bool := decide (32 ≤ b.toNat) && decide (b.toNat ≤ 126)
def nameB (s : ByteArray) : Bool := decide (1 ≤ s.size) && decide (s.size ≤ 32) && s.data.toList.all nameC && smallC (s.data.toList.getD 0 0)
def valueB (s : ByteArray) : Bool := decide (1 ≤ s.size) && decide (s.size ≤ 100) && s.data.toList.all valueC
/-- is a statement valid? -/
def saidB (s : Sd) : Bool :=
  decide (1 ≤ s.c ∧ s.c ≤ 8) && decide (1 ≤ s.n ∧ s.n ≤ 1000) && decide (0 ≤ s.back ∧ s.back ≤ s.n - 1) &&
  (if s.key.size = 0 then decide (s.val.size = 0) && decide (s.time = 0) && decide (s.trust = 0) && decide (0 < s.back)
   else nameB s.key && valueB s.val && decide (0 ≤ s.time ∧ s.time ≤ 1073741824) && decide (0 ≤ s.trust ∧ s.trust ≤ 1000))
structure SdOK (s : Sd) : Prop where
  c : 1 ≤ s.c ∧ s.c ≤ 8
  n : 1 ≤ s.n ∧ s.n ≤ 1000
  back : 0 ≤ s.back ∧ s.back ≤ s.n - 1
  time : 0 ≤ s.time ∧ s.time ≤ 1073741824
  trust : 0 ≤ s.trust ∧ s.trust ≤ 1000
  key : s.key.size ≤ 32
  val : s.val.size ≤ 100
theorem SdOK.of {s : Sd} (h : saidB s = true) : SdOK s := by
  unfold saidB at h
  simp only [Bool.and_eq_true, decide_eq_true_eq] at h
  obtain ⟨⟨⟨h1, h2⟩, h3⟩, h4⟩ := h
  by_cases hk : s.key.size = 0
  · rw [if_pos hk] at h4
    simp only [Bool.and_eq_true, decide_eq_true_eq] at h4
    exact ⟨h1, h2, h3, by omega, by omega, by omega, by omega⟩
  · rw [if_neg hk] at h4
    simp only [nameB, valueB, Bool.and_eq_true, decide_eq_true_eq] at h4
    exact ⟨h1, h2, h3, by omega, by omega, by omega, by omega⟩
theorem nums_of {l : List Sd} (h : ∀ s, s ∈ l → saidB s = true) : Nums l := fun s hs => ⟨(SdOK.of (h s hs)).c, (SdOK.of (h s hs)).n⟩

/-! ### talk -/
structure Tk where
  who : Nat
  frm : Nat
  many : Nat
  say : Bool
  sd : Sd
structure Wd where
  ar : Nat → List Sd
  said : List Sd
def up (f : Nat → List Sd) (i : Nat) (l : List Sd) : Nat → List Sd := fun j => if j = i then l else f j
theorem up_same (f : Nat → List Sd) (i : Nat) (l : List Sd) : up f i l i = l := by simp [up]
theorem up_other (f : Nat → List Sd) {i j : Nat} (l : List Sd) (h : j ≠ i) : up f i l j = f j := by simp [up, h]
/-- what a picture states -/
def sayOf (cen : Int) (arr : List Sd) (t : Sd) : Sd := { t with c := cen, n := ((kn arr cen + 1 : Nat) : Int) }
/-- what is heard -/
def heard (said : List Sd) (t : Tk) : List Sd := if said.length = 0 then [] else (List.range (t.many % 6)).map fun k => said.getD ((t.frm + 7 * k) % said.length) noSd
def Wd.step (W : Wd) (t : Tk) : Wd :=
  if t.say then
    if saidB (sayOf ((t.who % 3 + 1 : Nat) : Int) (W.ar (t.who % 3)) t.sd) then
      ⟨up W.ar (t.who % 3) (W.ar (t.who % 3) ++ [sayOf ((t.who % 3 + 1 : Nat) : Int) (W.ar (t.who % 3)) t.sd]), W.said ++ [sayOf ((t.who % 3 + 1 : Nat) : Int) (W.ar (t.who % 3)) t.sd]⟩
    else W
  else ⟨up W.ar (t.who % 3) (W.ar (t.who % 3) ++ fresh (W.ar (t.who % 3)) (heard W.said t)), W.said⟩
def Wd.none : Wd := ⟨fun _ => [], []⟩
def Wd.run (W : Wd) (l : List Tk) : Wd := l.foldl Wd.step W
theorem Wd.run_take {W : Wd} {l : List Tk} {k : Nat} {t : Tk} (h : l[k]? = some t) : W.run (l.take (k + 1)) = (W.run (l.take k)).step t := by
  unfold Wd.run
  rw [List.take_add_one, h]
  simp

structure Inv (W : Wd) (n : Nat) : Prop where
  sub : ∀ i s, s ∈ W.ar i → s ∈ W.said
  uq : Uq W.said
  ok : ∀ s, s ∈ W.said → saidB s = true
  own : ∀ s, s ∈ W.said → ∃ i, i < 3 ∧ s.c = ((i + 1 : Nat) : Int) ∧ s ∈ W.ar i
  nd : ∀ i, (W.ar i).Pairwise fun a b => ¬ sameP a b
  len : W.said.length ≤ n
theorem Inv.none : Inv Wd.none 0 := ⟨fun _ s h => (by cases h), fun a h => (by cases h), fun s h => (by cases h), fun s h => (by cases h), fun _ => List.Pairwise.nil, Nat.le_refl _⟩
theorem Inv.oks {W : Wd} {n : Nat} (h : Inv W n) (i : Nat) : ∀ s, s ∈ W.ar i → saidB s = true := fun s hs => h.ok s (h.sub i s hs)
theorem Inv.nums {W : Wd} {n : Nat} (h : Inv W n) : Nums W.said := nums_of h.ok
theorem Inv.numsA {W : Wd} {n : Nat} (h : Inv W n) (i : Nat) : Nums (W.ar i) := nums_of (h.oks i)
theorem Inv.uqA {W : Wd} {n : Nat} (h : Inv W n) (i : Nat) : Uq (W.ar i) := fun a ha b hb e => h.uq a (h.sub i a ha) b (h.sub i b hb) e
theorem nodup_len {α : Type} [DecidableEq α] : ∀ {l m : List α}, l.Nodup → (∀ x, x ∈ l → x ∈ m) → l.length ≤ m.length
  | [], _, _, _ => by simp
  | a :: l, m, hn, h => by
    have h1 := List.nodup_cons.1 hn
    have ha := h a (by simp)
    have h2 := nodup_len (l := l) (m := m.erase a) h1.2 fun x hx => (List.mem_erase_of_ne (fun e => h1.1 (by rw [← e]; exact hx))).2 (h x (by simp [hx]))
    rw [List.length_erase_of_mem ha] at h2
    have : 0 < m.length := List.length_pos_of_mem ha
    simp only [List.length_cons]
    omega
theorem Inv.lenA {W : Wd} {n : Nat} (h : Inv W n) (i : Nat) : (W.ar i).length ≤ W.said.length :=
  nodup_len ((h.nd i).imp fun hab e => hab (by rw [e]; exact ⟨rfl, rfl⟩)) (h.sub i)
theorem heard_sub {said : List Sd} {t : Tk} {s : Sd} (h : s ∈ heard said t) : s ∈ said := by
  unfold heard at h
  split at h
  · cases h
  · rename_i h0
    obtain ⟨k, -, rfl⟩ := List.mem_map.1 h
    have h1 : (t.frm + 7 * k) % said.length < said.length := Nat.mod_lt _ (by omega)
    rw [List.getD_eq_getElem?_getD, List.getElem?_eq_getElem h1]
    exact List.getElem_mem h1
/-- statements from what was said are taken -/
theorem Inv.take {W : Wd} {n : Nat} (h : Inv W n) (i : Nat) {l : List Sd} (hl : ∀ s, s ∈ l → s ∈ W.said) : Inv ⟨up W.ar i (W.ar i ++ fresh (W.ar i) l), W.said⟩ n := by
  have hsub : ∀ s, s ∈ W.ar i ++ fresh (W.ar i) l → s ∈ W.said := fun s hs => (List.mem_append.1 hs).elim (h.sub i s) fun hf => hl s (fresh_sub _ _ s hf)
  refine ⟨fun j s hs => ?_, h.uq, h.ok, fun s hs => ?_, fun j => ?_, h.len⟩
  · dsimp only at *
    by_cases e : j = i
    · subst e
      rw [up_same] at hs
      exact hsub s hs
    · rw [up_other _ _ e] at hs
      exact h.sub j s hs
  · obtain ⟨j, h1, h2, h3⟩ := h.own s hs
    refine ⟨j, h1, h2, ?_⟩
    dsimp only
    by_cases e : j = i
    · subst e
      rw [up_same]
      exact List.mem_append.2 (.inl h3)
    · rw [up_other _ _ e]
      exact h3
  · dsimp only at *
    by_cases e : j = i
    · subst e
      rw [up_same]
      have hf := fresh_new (W.ar j) l
      refine List.pairwise_append.2 ⟨h.nd j, hf.2, fun a ha b hb e => ?_⟩
      have := hf.1 b hb
      rw [hasP_iff.2 ⟨a, ha, e.1, e.2⟩] at this
      cases this
    · rw [up_other _ _ e]
      exact h.nd j
/-- a picture states something -/
theorem Inv.say {W : Wd} {n i : Nat} (h : Inv W n) (hi : i < 3) {t : Sd} (hs : saidB (sayOf ((i + 1 : Nat) : Int) (W.ar i) t) = true) :
    Inv ⟨up W.ar i (W.ar i ++ [sayOf ((i + 1 : Nat) : Int) (W.ar i) t]), W.said ++ [sayOf ((i + 1 : Nat) : Int) (W.ar i) t]⟩ (n + 1) := by
  obtain ⟨s, hse⟩ : ∃ s, sayOf ((i + 1 : Nat) : Int) (W.ar i) t = s := ⟨_, rfl⟩
  have hc : s.c = ((i + 1 : Nat) : Int) := by rw [← hse]; rfl
  have hn : s.n = ((kn (W.ar i) ((i + 1 : Nat) : Int) + 1 : Nat) : Int) := by rw [← hse]; rfl
  rw [hse] at hs ⊢
  have hnot : hasP (W.ar i) s.c s.n = false := by
    rw [hc, hn]
    exact (kn_is (h.numsA i) _).2
  have hnew : ∀ u, u ∈ W.said → ¬ sameP u s := fun u hu e => by
    obtain ⟨j, h1, h2, h3⟩ := h.own u hu
    have hj : j = i := by
      have := e.1
      rw [h2, hc] at this
      omega
    subst hj
    rw [hasP_iff.2 ⟨u, h3, e.1, e.2⟩] at hnot
    cases hnot
  refine ⟨fun j u hu => ?_, fun a ha b hb e => ?_, fun u hu => ?_, fun u hu => ?_, fun j => ?_, by simp; exact h.len⟩
  · dsimp only at *
    by_cases e : j = i
    · subst e
      rw [up_same] at hu
      exact (List.mem_append.1 hu).elim (fun k => List.mem_append.2 (.inl (h.sub j u k))) fun k => List.mem_append.2 (.inr k)
    · rw [up_other _ _ e] at hu
      exact List.mem_append.2 (.inl (h.sub j u hu))
  · rcases List.mem_append.1 ha with ka | ka <;> rcases List.mem_append.1 hb with kb | kb
    · exact h.uq a ka b kb e
    · simp at kb
      subst kb
      exact absurd e (hnew a ka)
    · simp at ka
      subst ka
      exact absurd ⟨e.1.symm, e.2.symm⟩ (hnew b kb)
    · simp at ka kb
      rw [ka, kb]
  · rcases List.mem_append.1 hu with hu | hu
    · exact h.ok u hu
    · simp at hu
      rw [hu]
      exact hs
  · rcases List.mem_append.1 hu with hu | hu
    · obtain ⟨j, h1, h2, h3⟩ := h.own u hu
      refine ⟨j, h1, h2, ?_⟩
      dsimp only
      by_cases e : j = i
      · subst e
        rw [up_same]
        exact List.mem_append.2 (.inl h3)
      · rw [up_other _ _ e]
        exact h3
    · simp at hu
      subst hu
      exact ⟨i, hi, hc, by dsimp only; rw [up_same]; simp⟩
  · dsimp only at *
    by_cases e : j = i
    · subst e
      rw [up_same]
      refine List.pairwise_append.2 ⟨h.nd j, List.pairwise_singleton _ _, fun a ha b hb e => ?_⟩
      simp at hb
      subst hb
      exact hnew a (h.sub j a ha) e
    · rw [up_other _ _ e]
      exact h.nd j
theorem Inv.mono {W : Wd} {n m : Nat} (h : Inv W n) (hn : n ≤ m) : Inv W m := ⟨h.sub, h.uq, h.ok, h.own, h.nd, Nat.le_trans h.len hn⟩
theorem Inv.step {W : Wd} {n : Nat} (h : Inv W n) (t : Tk) : Inv (W.step t) (n + 1) := by
  unfold Wd.step
  split
  · split
    · exact h.say (Nat.mod_lt _ (by omega)) (by assumption)
    · exact h.mono (by omega)
  · exact (h.take _ fun s hs => heard_sub hs).mono (by omega)
theorem Inv.run {l : List Tk} : ∀ {W : Wd} {n : Nat}, Inv W n → Inv (W.run l) (n + l.length) := by
  induction l with
  | nil => intro W n h; exact h
  | cons t l ih =>
    intro W n h
    have := ih (h.step t)
    rw [List.length_cons, show n + (l.length + 1) = n + 1 + l.length by omega]
    exact this

/-! ### what the statements ask -/
/-- two pictures show the same up to what both know -/
theorem betw_both {a b said : List Sd} (ha : Nums a) (hb : Nums b) (hu : Uq said) (sa : ∀ s, s ∈ a → s ∈ said) (sb : ∀ s, s ∈ b → s ∈ said) (v : Nat → Nat) (hva : ∀ c, c < 8 → v c ≤ kn a ((c + 1 : Nat) : Int)) (hvb : ∀ c, c < 8 → v c ≤ kn b ((c + 1 : Nat) : Int)) :
    betw a (fun _ => 0) v 8 = betw b (fun _ => 0) v 8 := by
  refine betw_ext fun c n hc h1 h2 => ?_
  obtain ⟨s, hs⟩ := kn_has ha (c := ((c + 1 : Nat) : Int)) h1 (Nat.le_trans h2 (hva c hc))
  obtain ⟨t, ht⟩ := kn_has hb (c := ((c + 1 : Nat) : Int)) h1 (Nat.le_trans h2 (hvb c hc))
  have es := atP_some hs
  have et := atP_some ht
  unfold getP
  rw [hs, ht, hu s (sa s es.1) t (sb t et.1) ⟨es.2.1.trans et.2.1.symm, es.2.2.trans et.2.2.symm⟩]
/-- what is up to what is known is there -/
theorem betw_mem {a : List Sd} (ha : Nums a) {v u : Nat → Nat} (hv : ∀ c, c < 8 → v c ≤ kn a ((c + 1 : Nat) : Int)) {s : Sd} (h : s ∈ betw a u v 8) : s ∈ a ∧ ∃ c n : Nat, c < 8 ∧ u c < n ∧ n ≤ v c ∧ s.c = ((c + 1 : Nat) : Int) ∧ s.n = n := by
  obtain ⟨c, n, h1, h2, h3, rfl⟩ := mem_betw.1 h
  obtain ⟨s, hs⟩ := kn_has ha (c := ((c + 1 : Nat) : Int)) (n := n) (by omega) (Nat.le_trans h3 (hv c h1))
  have es := atP_some hs
  have e : getP a ((c + 1 : Nat) : Int) n = s := by unfold getP; rw [hs]; rfl
  rw [e]
  exact ⟨es.1, c, n, h1, h2, h3, es.2⟩
theorem betw_of {a : List Sd} (hu : Uq a) {v u : Nat → Nat} {s : Sd} (hs : s ∈ a) {c n : Nat} (hc : s.c = ((c + 1 : Nat) : Int)) (hn : s.n = n) (h1 : c < 8) (h2 : u c < n) (h3 : n ≤ v c) : s ∈ betw a u v 8 := by
  refine mem_betw.2 ⟨c, n, h1, h2, h3, ?_⟩
  unfold getP
  rw [← hc, ← hn, atP_mem hu hs]
  rfl
/-- all that was said has come -/
def Full (a said : List Sd) : Prop := (∀ s, s ∈ a → s ∈ said) ∧ ∀ s, s ∈ said → hasP a s.c s.n = true
theorem Full.has {a said : List Sd} (h : Full a said) (c n : Int) : hasP a c n = hasP said c n := by
  rw [Bool.eq_iff_iff, hasP_iff, hasP_iff]
  constructor
  · rintro ⟨s, hs, h1, h2⟩
    exact ⟨s, h.1 s hs, h1, h2⟩
  · rintro ⟨s, hs, rfl, rfl⟩
    exact hasP_iff.1 (h.2 s hs)
theorem Full.kn {a said : List Sd} (h : Full a said) (hs : Nums said) (c : Int) : kn a c = kn said c := kn_ext (hs.sub h.1) hs (h.has c)
theorem full_of {W : Wd} {n : Nat} (h : Inv W n) (i : Nat) {l : List Sd} (hl : ∀ s, s ∈ l ↔ s ∈ W.said) : Full (W.ar i ++ fresh (W.ar i) l) W.said :=
  ⟨fun s hs => (List.mem_append.1 hs).elim (h.sub i s) fun hf => (hl s).1 (fresh_sub _ _ s hf), fun s hs => fresh_all _ _ s ((hl s).2 hs)⟩
end Go.Proofs.Ytngigogaiheckaa
