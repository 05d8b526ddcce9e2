/- share: what the laws on talk share: a picture of a world knows, takes, shows. -/
import Derived.Test.YtngigogaiheckaaShAwake
import Derived.Test.YtngigogaiheckaaShJoin
import Derived.Test.YtngigogaiheckaaShTruth
namespace Go.Proofs.Ytngigogaiheckaa
open Go.RowKit Go.Shelf Go.Lib Go.Maps

theorem kn_le_len {l : List Sd} (h : Nums l) (c : Int) : kn l c ≤ l.length := by
  have hk : ∀ i, i < kn l c → ∃ s, getP l c ((0 + i + 1 : Nat) : Int) = s ∧ s ∈ l ∧ s.n = ((0 + i + 1 : Nat) : Int) := fun i hi => by
    obtain ⟨s, hs⟩ := kn_has h (c := c) (n := 0 + i + 1) (by omega) (by omega)
    have := atP_some hs
    exact ⟨s, by unfold getP; rw [hs]; rfl, this.1, this.2.2⟩
  have h1 := nodup_len (l := rowP l c 0 (kn l c)) (m := l) (by
    unfold rowP
    rw [List.Nodup, List.pairwise_map]
    refine List.nodup_range.imp_of_mem fun {a b} ha hb hab e => ?_
    obtain ⟨s, e1, -, e2⟩ := hk a (List.mem_range.1 ha)
    obtain ⟨t, e3, -, e4⟩ := hk b (List.mem_range.1 hb)
    rw [e1, e3] at e
    rw [e, e4] at e2
    omega) fun x hx => by
    unfold rowP at hx
    obtain ⟨i, hi, rfl⟩ := List.mem_map.1 hx
    obtain ⟨s, e1, e2, -⟩ := hk i (List.mem_range.1 hi)
    rw [e1]
    exact e2
  rwa [rowP_len] at h1
theorem kn_vec {a : List Sd} (h : Nums a) : vecOK (vecI (knF a)) = true := vecOK_vecI fun c _ => kn_le h _
theorem betw_low {l : List Sd} {a a' b : Nat → Nat} : ∀ {m : Nat}, (∀ c, c < m → a c = a' c) → betw l a b m = betw l a' b m
  | 0, _ => rfl
  | m + 1, h => by rw [betw_succ, betw_succ, betw_low fun c hc => h c (by omega), h m (by omega)]
section
variable {w wr : World} {n m : Nat} {W : Wd} {ps : Nat → Nat} {F : Nat → Nat → Prop} {vp vs : Value}
theorem WdAt.ptr {gp cp : Nat} (h : WdAt w wr n W ps F (.slice (some ⟨gp, 0, none⟩) m cp) vs) {i : Nat} (hi : i < n) : wr.cell? ⟨gp, i, none⟩ = some (.pointer (some ⟨ps i, 0, none⟩)) := by
  have h1 := h.pics.cells (g := gp) rfl i _ (ptrs_get ps hi)
  rwa [add_pl, Nat.zero_add] at h1
theorem WdAt.known (h : WdAt w wr n W ps F vp vs) {i : Nat} (hi : i < n) (hl : (W.ar i).length ≤ 1000) :
    Calls Try.prog 11 #[.pointer (some ⟨ps i, 0, none⟩)] wr fun e w' => ∃ v, e = .returned v ∧ w'.ownsRow wr.heap.size 3 1 v 8 (encV (knF (W.ar i))) ∧ Lst 1 encI w' v (vecI (knF (W.ar i))) ∧ Below wr.heap.size wr w' :=
  (known_sh wr (h.pic i hi) hl).mono fun _ _ ⟨v, h1, h2, h3⟩ => ⟨v, h1, h2, Lst_of_own encI_len (l := vecI (knF (W.ar i))) h2 rfl, h3⟩
theorem WdAt.take (h : WdAt w wr n W ps F vp vs) {k : Nat} (hinv : Inv W k) {i : Nat} (hi : i < n) {v : Value} {l : List Sd} (hv : Lst 7 encSd wr v l) (hl : ∀ s, s ∈ l → s ∈ W.said) (hlen : W.said.length + l.length ≤ 900) :
    Calls Try.prog 14 #[.pointer (some ⟨ps i, 0, none⟩), v] wr fun e w' => e = .returned (.tuple #[.int .i64 (fresh (W.ar i) l).length, .int .i64 0]) ∧
      WdAt w w' n ⟨up W.ar i (W.ar i ++ fresh (W.ar i) l), W.said⟩ ps (fun j => if j = i then Gr (F i) wr w' else F j) vp vs ∧ Ext (F i) wr w' := by
  have := hinv.lenA i
  refine (take_sh wr (h.pic i hi) (fun b hf => (h.lo i b hi hf).2) v l hv (hinv.numsA i) (fun s hs => hinv.ok s (hl s hs)) (fun s hs t ht he => hinv.uq s (hl s hs) t (ht.elim (hinv.sub i t) (hl t)) he) (by omega)).mono ?_
  rintro e w' ⟨rfl, h2, h3⟩
  exact ⟨rfl, h.turn hi h2 h3, h3⟩
/-- a row of the law's own that no picture holds -/
theorem rowExt {F : Nat → Prop} {w w' : World} {base N : Nat} {e : TypeId} {z n : Nat} {v : Value} {xs : List Value} (h : w.ownsRow base e z v n xs) (hE : Ext F w w') (hF : ∀ b, F b → b < base ∨ N ≤ b) (hv : ∀ g, v.ownBlock = some g → g < N) : w'.ownsRow base e z v n xs :=
  rowOff h hE fun b hb hg => by
    have h1 := ownBlock_lt h hg
    have h2 := hv b hg
    rcases hF b hb with h3 | h3 <;> omega
theorem Inv.taken {W : Wd} {n : Nat} (h : Inv W n) (i : Nat) {l : List Sd} (hl : ∀ s, s ∈ l → s ∈ W.said) : Inv ⟨up W.ar i (W.ar i ++ fresh (W.ar i) l), W.said⟩ n := h.take i hl
theorem fresh_twice (a l : List Sd) : fresh (a ++ fresh a l) l = [] := fresh_none fun s hs => fresh_all a l s hs
end
theorem up_up (f : Nat → List Sd) (i : Nat) (l m : List Sd) : up (up f i l) i m = up f i m := by
  funext j
  unfold up
  split <;> rfl
theorem rowAt {w : World} {base : Nat} {e : TypeId} {z n g c m : Nat} {xs : List Value} (h : w.ownsRow base e z (.slice (some ⟨g, 0, none⟩) m c) n xs) {k : Nat} {u : Value} (hu : xs[k]? = some u) : w.cell? ⟨g, k, none⟩ = some u := by
  have h1 := h.cells (g := g) rfl k u hu
  rwa [add_pl, Nat.zero_add] at h1
end Go.Proofs.Ytngigogaiheckaa
