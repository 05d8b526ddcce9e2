/- share: the rows of show, by key. -/
import Derived.Test.YtngigogaiheckaaShMap
import Derived.Test.YtngigogaiheckaaShRound
namespace Go.Proofs.Ytngigogaiheckaa
open Go.RowKit Go.Lib Go.Maps Go.Shelf

/-- a row stays where a block turns that is no cells -/
theorem rowKept {W W' : World} {base : Nat} {e : TypeId} {z n : Nat} {v : Value} {xs : List Value} {row : Option Nat} (h : W.ownsRow base e z v n xs) (hg : W.grownBy W' row) (hr : ∀ r, row = some r → ∃ o : Obj, W.heap[r]? = some o ∧ o.isCells = false) : W'.ownsRow base e z v n xs := by
  refine ownsBlocks' h fun b hb => ?_
  rcases h.2 with ⟨rfl, _⟩ | ⟨g, cap, cur, rfl, _, hgb, _⟩
  · simp [Value.ownBlock] at hb
  · obtain rfl : g = b := by simpa [Value.ownBlock] using hb
    refine hg.block g (Array.getElem?_eq_some_iff.1 hgb).1 fun e' => ?_
    obtain ⟨o, ho, hc⟩ := hr g e'.symm
    rw [hgb] at ho
    cases ho
    cases hc
theorem rowGrown {W W' : World} {base : Nat} {e : TypeId} {z n : Nat} {v : Value} {xs : List Value} {row : Option Nat} (h : W.ownsRow base e z v n xs) (hg : W.grownBy W' row) (hr : ∀ r, row = some r → v.ownBlock ≠ some r) : W'.ownsRow base e z v n xs :=
  ownsBlocks' h fun b hb => hg.block b (ownBlock_lt h hb).2 (fun e => hr b e.symm hb)
/-- the rows by key, and the keys -/
structure ByAt (W : World) (B : Nat) (L pre : List Sd) (f : ByteArray → Option Value) (vks : Value) (ks : List ByteArray) : Prop where
  no : ∀ k, f k = none → byF L pre k = []
  got : ∀ k v, f k = some v → byF L pre k ≠ []
  row : ∀ k v, f k = some v → W.ownsRow B 38 7 v (byF L pre k).length (flatE encSd (byF L pre k))
  sep : ∀ k k' v v', f k = some v → f k' = some v' → k ≠ k' → v.ownBlock ≠ v'.ownBlock
  off : ∀ k v, f k = some v → v.ownBlock ≠ vks.ownBlock
  ks : W.ownsRow B 9 1 vks ks.length (ks.map Value.string)
section
variable {W W' : World} {B : Nat} {L pre : List Sd} {f : ByteArray → Option Value} {vks : Value} {ks : List ByteArray}
theorem ByAt.nil (W : World) (B : Nat) (L : List Sd) : ByAt W B L [] (fun _ => none) (.slice none 0 0) [] :=
  ⟨fun k _ => rfl, fun k v h => by simp at h, fun k v h => by simp at h, fun k k' v v' h => by simp at h, fun k v h => by simp at h, World.ownsRow_nil _ _ _ _⟩
theorem ByAt.kept (h : ByAt W B L pre f vks ks) {row : Option Nat} (hg : W.grownBy W' row) (hr : ∀ r, row = .some r → ∃ o : Obj, W.heap[r]? = .some o ∧ o.isCells = false) : ByAt W' B L pre f vks ks :=
  ⟨h.no, h.got, fun k v e => rowKept (h.row k v e) hg hr, h.sep, h.off, rowKept h.ks hg hr⟩
theorem ByAt.below (h : ByAt W B L pre f vks ks) (hb : Below W.heap.size W W') : ByAt W' B L pre f vks ks :=
  ⟨h.no, h.got, fun k v e => ownsBelow (h.row k v e) hb, h.sep, h.off, ownsBelow h.ks hb⟩
theorem ByAt.dead (h : ByAt W B L pre f vks ks) {s : Sd} (hs : counts L s = false) : ByAt W B L (pre ++ [s]) f vks ks :=
  ⟨fun k e => by rw [byF_dead hs]; exact h.no k e, fun k v e => by rw [byF_dead hs]; exact h.got k v e, fun k v e => by rw [byF_dead hs]; exact h.row k v e, h.sep, h.off, h.ks⟩
theorem ByAt.own (h : ByAt W B L pre f vks ks) {k : ByteArray} {v : Value} (hv : f k = .some v) : ∃ g, v.ownBlock = .some g ∧ B ≤ g ∧ g < W.heap.size := by
  have hp := List.length_pos_iff.2 (h.got k v hv)
  obtain ⟨g, cap, rfl, h1, h2⟩ := (h.row k v hv).form hp
  exact ⟨g, rfl, h1, h2⟩
/-- a key more -/
theorem ByAt.key (h : ByAt W B L pre f vks ks) {o : Obj} {w1 : World} {vks' : Value} {key : ByteArray} {Q : Nat} (ho : w1.ownsRow B 9 1 vks' (ks.length + 1) (ks.map Value.string ++ [.string key])) (hg : (W.alloc o).grownBy w1 vks.ownBlock)
    (hH : vks'.ownBlock = vks.ownBlock ∨ vks'.ownBlock = .some (W.heap.size + 1)) (hQ : Q < B) (u : Value) : ByAt (w1.setCell ⟨Q, 0, none⟩ u) B L pre f vks' (ks ++ [key]) := by
  have hba := (Below.refl W.heap.size W).alloc (Nat.le_refl _) o
  refine ⟨h.no, h.got, fun k v e => ?_, h.sep, fun k v e => ?_, ?_⟩
  · exact ownsSet (rowGrown (ownsBelow (h.row k v e) hba) hg (fun r e2 => by
      intro e3
      exact h.off k v e (e3.trans e2.symm))) hQ u
  · rcases hH with e1 | e1
    · rw [e1]; exact h.off k v e
    · rw [e1]
      obtain ⟨g, h1, -, h2⟩ := h.own e
      rw [h1]
      intro e2
      have := Option.some.inj e2
      omega
  · rw [List.length_append, List.length_singleton, List.map_append, List.map_cons, List.map_nil]
    exact ownsSet ho hQ u
/-- a statement more -/
theorem ByAt.push (h : ByAt W B L pre f vks ks) {s : Sd} (hc : counts L s = true) {v : Value} (hv : (f s.key).getD (.slice none 0 0) = v) {o : Obj} {w2 w3 : World} {g cap Q : Nat}
    (ho : w2.ownsRow B 38 7 (.slice (some ⟨g, 0, none⟩) ((byF L pre s.key).length + 1) cap) ((byF L pre s.key).length + 1) (flatE encSd (byF L pre s.key) ++ encSd s)) (hg : (W.alloc o).grownBy w2 v.ownBlock)
    (hH : v.ownBlock = .some g ∨ g = W.heap.size + 1) (hg3 : w2.grownBy w3 (.some Q)) (hQ : Q < B) : ByAt w3 B L (pre ++ [s]) (putF f s.key (.slice (some ⟨g, 0, none⟩) ((byF L pre s.key).length + 1) cap)) vks ks := by
  have hba := (Below.refl W.heap.size W).alloc (Nat.le_refl _) o
  have hfar : ∀ k v', f k = .some v' → k ≠ s.key → v'.ownBlock ≠ v.ownBlock := fun k v' e hk e2 => by
    cases hf : f s.key with
    | none =>
      rw [hf] at hv
      subst hv
      obtain ⟨g', h1, -, -⟩ := h.own e
      rw [h1] at e2
      simp [Value.ownBlock] at e2
    | some v0 =>
      rw [hf] at hv
      obtain rfl : v0 = v := hv
      exact h.sep k s.key v' v0 e hf hk e2
  have hgo : ∀ k v', f k = .some v' → k ≠ s.key → v'.ownBlock ≠ .some g := fun k v' e hk e2 => by
    rcases hH with h1 | h1
    · exact hfar k v' e hk (e2.trans h1.symm)
    · obtain ⟨g', h2, -, h3⟩ := h.own e
      rw [h2] at e2
      have := Option.some.inj e2
      omega
  have hgk : vks.ownBlock ≠ .some g := fun e2 => by
    rcases hH with h1 | h1
    · cases hf : f s.key with
      | none =>
        rw [hf] at hv
        subst hv
        simp [Value.ownBlock] at h1
      | some v0 =>
        rw [hf] at hv
        obtain rfl : v0 = v := hv
        exact h.off _ _ hf (h1.trans e2.symm)
    · have := ownBlock_lt h.ks e2
      omega
  have hvk : v.ownBlock = none ∨ v.ownBlock ≠ vks.ownBlock := by
    cases hf : f s.key with
    | none =>
      rw [hf] at hv
      subst hv
      exact .inl rfl
    | some v0 =>
      rw [hf] at hv
      obtain rfl : v0 = v := hv
      exact .inr (h.off _ _ hf)
  have hlow : ∀ {base' : Nat} {e : TypeId} {z n : Nat} {x : Value} {xs : List Value}, w2.ownsRow B e z x n xs → w3.ownsRow B e z x n xs := fun hr => rowGrown hr hg3 (fun r e e2 => by
    cases e
    have := ownBlock_lt hr e2
    omega)
  refine ⟨fun k e => ?_, fun k v' e => ?_, fun k v' e => ?_, fun k k' v1 v2 e1 e2 hk => ?_, fun k v' e => ?_, ?_⟩
  · unfold putF at e
    split at e
    · cases e
    · rename_i hk
      rw [byF_live hc, if_neg hk]
      exact h.no k e
  · unfold putF at e
    split at e
    · rename_i hk
      rw [byF_live hc, if_pos hk]
      simp
    · rename_i hk
      rw [byF_live hc, if_neg hk]
      exact h.got k v' e
  · unfold putF at e
    split at e
    · rename_i hk
      cases e
      rw [byF_live hc, if_pos hk, hk, List.length_append, List.length_singleton, flatE_append]
      refine hlow (base' := 0) ?_
      simpa [flatE] using ho
    · rename_i hk
      rw [byF_live hc, if_neg hk]
      refine hlow (base' := 0) (rowGrown (ownsBelow (h.row k v' e) hba) hg fun r e2 e3 => hfar k v' e hk (e3.trans e2.symm))
  · unfold putF at e1 e2
    split at e1 <;> split at e2
    · rename_i h1 h2
      exact absurd (h1.trans h2.symm) hk
    · rename_i h1 h2
      cases e1
      exact fun e => hgo k' v2 e2 h2 e.symm
    · rename_i h1 h2
      cases e2
      exact fun e => hgo k v1 e1 h1 e
    · exact h.sep k k' v1 v2 e1 e2 hk
  · unfold putF at e
    split at e
    · cases e
      exact fun e => hgk e.symm
    · exact h.off k v' e
  · refine hlow (base' := 0) (rowGrown (ownsBelow h.ks hba) hg fun r e2 e3 => ?_)
    rcases hvk with h1 | h1
    · rw [h1] at e2
      cases e2
    · exact h1 (e2.trans e3.symm)
end
end Go.Proofs.Ytngigogaiheckaa
