/- share: three pictures, and what was said, in the memory. -/
import Derived.Test.YtngigogaiheckaaShTalk
namespace Go.Proofs.Ytngigogaiheckaa
open Go.RowKit Go.Shelf Go.Lib Go.Maps

theorem rowOff {F : Nat → Prop} {w w' : World} {base : Nat} {e : TypeId} {z n : Nat} {v : Value} {xs : List Value} (h : w.ownsRow base e z v n xs) (hE : Ext F w w') (hF : ∀ b, F b → v.ownBlock ≠ some b) : w'.ownsRow base e z v n xs :=
  ownsBlocks' h fun b hb => hE.block b (ownBlock_lt h hb).2 (fun hf => hF b hf hb)
def ptrs (ps : Nat → Nat) (n : Nat) : List Value := (List.range n).map fun i => Value.pointer (some ⟨ps i, 0, none⟩)
theorem ptrs_succ (ps : Nat → Nat) (n : Nat) : ptrs ps (n + 1) = ptrs ps n ++ [.pointer (some ⟨ps n, 0, none⟩)] := by simp [ptrs, List.range_succ]
theorem ptrs_len (ps : Nat → Nat) (n : Nat) : (ptrs ps n).length = n := by simp [ptrs]
theorem ptrs_get (ps : Nat → Nat) {n i : Nat} (h : i < n) : (ptrs ps n)[i]? = some (.pointer (some ⟨ps i, 0, none⟩)) := by simp [ptrs, h]
/-- the first n pictures and what was said, laid since w -/
structure WdAt (w wr : World) (n : Nat) (W : Wd) (ps : Nat → Nat) (F : Nat → Nat → Prop) (vp vs : Value) : Prop where
  pic : ∀ i, i < n → Pic wr (F i) (ps i) ((i + 1 : Nat) : Int) (W.ar i)
  lo : ∀ i b, i < n → F i b → w.heap.size ≤ b ∧ b < wr.heap.size
  dis : ∀ i j b, i < n → j < n → i ≠ j → F i b → ¬ F j b
  pics : wr.ownsRow w.heap.size 30 1 vp n (ptrs ps n)
  said : wr.ownsRow w.heap.size 38 7 vs W.said.length (flatE encSd W.said)
  offp : ∀ i b, i < n → F i b → vp.ownBlock ≠ some b
  offs : ∀ i b, i < n → F i b → vs.ownBlock ≠ some b
  ne : vs.ownBlock = none ∨ vs.ownBlock ≠ vp.ownBlock
  below : Below w.heap.size w wr
section
variable {w wr wx w2 : World} {n : Nat} {W : Wd} {ps : Nat → Nat} {F : Nat → Nat → Prop} {vp vs : Value}
theorem WdAt.start (w : World) : WdAt w w 0 Wd.none (fun _ => 0) (fun _ _ => False) (.slice none 0 0) (.slice none 0 0) :=
  ⟨fun i h => by omega, fun i b h => by omega, fun i j b h => by omega, World.ownsRow_nil _ _ _ _, World.ownsRow_nil _ _ _ _, fun i b h => by omega, fun i b h => by omega, .inl rfl, Below.refl _ _⟩
theorem WdAt.on (h : WdAt w wr n W ps F vp vs) (hb : Below wr.heap.size wr wx) : WdAt w wx n W ps F vp vs :=
  ⟨fun i hi => (h.pic i hi).below hb, fun i b hi hf => ⟨(h.lo i b hi hf).1, Nat.lt_of_lt_of_le (h.lo i b hi hf).2 hb.size⟩, h.dis, ownsBelow h.pics hb, ownsBelow h.said hb, h.offp, h.offs, h.ne, h.below.trans (hb.mono h.below.size)⟩
/-- a picture more -/
theorem WdAt.add (h : WdAt w wr n W ps F vp vs) (h0 : W.ar n = []) {p : Nat} (hp : Pic wx (Gr (fun _ => False) wr wx) p ((n + 1 : Nat) : Int) []) (hb : Below wr.heap.size wr wx) {o : Obj} {g cap : Nat} {ps' : Nat → Nat} (hps : ps' = fun j => if j = n then p else ps j)
    (ho : w2.ownsRow w.heap.size 30 1 (.slice (some ⟨g, 0, none⟩) (n + 1) cap) (n + 1) (ptrs ps n ++ [.pointer (some ⟨p, 0, none⟩)])) (hg : (wx.alloc o).grownBy w2 vp.ownBlock) (hH : vp.ownBlock = some g ∨ g = wx.heap.size + 1) :
    WdAt w w2 (n + 1) W ps' (fun j => if j = n then Gr (fun _ => False) wr wx else F j) (.slice (some ⟨g, 0, none⟩) (n + 1) cap) vs := by
  have hx := h.on hb
  have hba := (Below.refl wx.heap.size wx).alloc (Nat.le_refl _) o
  have hvp : ∀ r, vp.ownBlock = some r → w.heap.size ≤ r ∧ r < wr.heap.size := fun r e => ownBlock_lt h.pics e
  have hws := h.below.size
  have hbs := hb.size
  have hgs := hg.size
  rw [size_alloc'] at hgs
  have keep : ∀ {F' : Nat → Prop} {q : Nat} {cen : Int} {arr : List Sd}, Pic wx F' q cen arr → (∀ b, F' b → vp.ownBlock ≠ some b) → Pic w2 F' q cen arr := fun hq hf => by
    obtain ⟨m, va, vk, hq⟩ := hq.below hba
    exact ⟨m, va, vk, hq.keep (by rw [size_alloc']; exact hgs) (fun k hk hfk => hg.block k hk (fun e => hf k hfk e.symm)) fun _ h => h⟩
  subst hps
  refine ⟨fun i hi => ?_, fun i b hi hf => ?_, fun i j b hi hj hij hf hf2 => ?_, ?_, ?_, fun i b hi hf => ?_, fun i b hi hf => ?_, ?_, ?_⟩
  · by_cases e : i = n
    · subst e
      simp only [if_true]
      rw [h0]
      exact keep hp fun b hb' e => by
        rcases hb' with hb' | hb'
        · exact hb'
        · have := hvp b e
          omega
    · simp only [if_neg e]
      exact keep (hx.pic i (by omega)) fun b hb' => h.offp i b (by omega) hb'
  · by_cases e : i = n
    · simp only [if_pos e] at hf
      rcases hf with hf | hf
      · exact hf.elim
      · omega
    · simp only [if_neg e] at hf
      have := h.lo i b (by omega) hf
      omega
  · by_cases e : i = n <;> by_cases e2 : j = n
    · omega
    · simp only [if_pos e, if_neg e2] at hf hf2
      rcases hf with hf | hf
      · exact hf
      · have := h.lo j b (by omega) hf2
        omega
    · simp only [if_neg e, if_pos e2] at hf hf2
      rcases hf2 with hf2 | hf2
      · exact hf2
      · have := h.lo i b (by omega) hf
        omega
    · simp only [if_neg e, if_neg e2] at hf hf2
      exact h.dis i j b (by omega) (by omega) hij hf hf2
  · have e : ptrs (fun j => if j = n then p else ps j) (n + 1) = ptrs ps n ++ [.pointer (some ⟨p, 0, none⟩)] := by
      rw [ptrs_succ]
      simp only [if_true]
      congr 1
      unfold ptrs
      refine List.map_congr_left fun i hi => ?_
      have : i ≠ n := by have := List.mem_range.1 hi; omega
      simp [this]
    rw [e]
    exact ho
  · refine rowGrown (ownsBelow hx.said hba) hg fun r e e2 => ?_
    rcases h.ne with h1 | h1
    · rw [h1] at e2
      cases e2
    · exact h1 (e2.trans e.symm)
  · intro e2
    have e2 : g = b := by simpa [Value.ownBlock] using e2
    subst e2
    by_cases e : i = n
    · simp only [if_pos e] at hf
      rcases hf with hf | hf
      · exact hf
      · rcases hH with h1 | h1
        · have := hvp g h1
          omega
        · omega
    · simp only [if_neg e] at hf
      have hlo := h.lo i g (by omega) hf
      rcases hH with h1 | h1
      · exact h.offp i g (by omega) hf h1
      · omega
  · by_cases e : i = n
    · simp only [if_pos e] at hf
      rcases hf with hf | hf
      · exact hf.elim
      · intro e2
        have := ownBlock_lt h.said e2
        omega
    · simp only [if_neg e] at hf
      exact h.offs i b (by omega) hf
  · rcases h.ne with h1 | h1
    · exact .inl h1
    · by_cases e : vs.ownBlock = Option.none
      · exact .inl e
      · refine .inr fun e2 => ?_
        have e2 : vs.ownBlock = some g := e2
        rcases hH with h3 | h3
        · exact h1 (e2.trans h3.symm)
        · have := ownBlock_lt h.said e2
          omega
  · exact (hx.below.trans (hba.mono (by omega))).grown hg (by rw [size_alloc']; omega) fun r e => (hvp r e).1
/-- a picture turns -/
theorem WdAt.turn (h : WdAt w wr n W ps F vp vs) {i : Nat} (hi : i < n) {arr : List Sd} (hp : Pic wx (Gr (F i) wr wx) (ps i) ((i + 1 : Nat) : Int) arr) (hE : Ext (F i) wr wx) :
    WdAt w wx n ⟨up W.ar i arr, W.said⟩ ps (fun j => if j = i then Gr (F i) wr wx else F j) vp vs := by
  have hws := h.below.size
  have hes := hE.size
  refine ⟨fun j hj => ?_, fun j b hj hf => ?_, fun j k b hj hk hjk hf hf2 => ?_, ?_, ?_, fun j b hj hf => ?_, fun j b hj hf => ?_, h.ne, ?_⟩
  · by_cases e : j = i
    · subst e
      simp only [if_true, up_same]
      exact hp
    · simp only [if_neg e, up_other _ _ e]
      exact (h.pic j hj).ext hE fun b hb => h.dis j i b hj hi e hb
  · by_cases e : j = i
    · subst e
      simp only [if_true] at hf
      rcases hf with hf | hf
      · have := h.lo j b hj hf
        omega
      · omega
    · simp only [if_neg e] at hf
      have := h.lo j b hj hf
      omega
  · by_cases e : j = i <;> by_cases e2 : k = i
    · omega
    · simp only [if_pos e, if_neg e2] at hf hf2
      rcases hf with hf | hf
      · exact h.dis i k b hi hk (fun q => e2 q.symm) hf hf2
      · have := h.lo k b hk hf2
        omega
    · simp only [if_neg e, if_pos e2] at hf hf2
      rcases hf2 with hf2 | hf2
      · exact h.dis j i b hj hi e hf hf2
      · have := h.lo j b hj hf
        omega
    · simp only [if_neg e, if_neg e2] at hf hf2
      exact h.dis j k b hj hk hjk hf hf2
  · exact rowOff h.pics hE fun b hb => h.offp i b hi hb
  · exact rowOff h.said hE fun b hb => h.offs i b hi hb
  · by_cases e : j = i
    · simp only [if_pos e] at hf
      rcases hf with hf | hf
      · exact h.offp i b hi hf
      · intro e2
        have := ownBlock_lt h.pics e2
        omega
    · simp only [if_neg e] at hf
      exact h.offp j b hj hf
  · by_cases e : j = i
    · simp only [if_pos e] at hf
      rcases hf with hf | hf
      · exact h.offs i b hi hf
      · intro e2
        have := ownBlock_lt h.said e2
        omega
    · simp only [if_neg e] at hf
      exact h.offs j b hj hf
  · exact ⟨hE.os.trans h.below.os, hE.tape.trans h.below.tape, hE.output.trans h.below.output, Nat.le_trans h.below.size hE.size, fun k hk => (hE.block k (by omega) (fun hf => by have := h.lo i k hi hf; omega)).trans (h.below.block k hk)⟩
/-- something more was said -/
theorem WdAt.push (h : WdAt w wr n W ps F vp vs) {s : Sd} {o : Obj} {g cap : Nat} (ho : w2.ownsRow w.heap.size 38 7 (.slice (some ⟨g, 0, none⟩) (W.said.length + 1) cap) (W.said.length + 1) (flatE encSd W.said ++ encSd s)) (hg : (wr.alloc o).grownBy w2 vs.ownBlock) (hH : vs.ownBlock = some g ∨ g = wr.heap.size + 1) :
    WdAt w w2 n ⟨W.ar, W.said ++ [s]⟩ ps F vp (.slice (some ⟨g, 0, none⟩) (W.said.length + 1) cap) := by
  have hba := (Below.refl wr.heap.size wr).alloc (Nat.le_refl _) o
  have hx := h.on hba
  have hgs := hg.size
  rw [size_alloc'] at hgs
  have hws := h.below.size
  have hvs : ∀ r, vs.ownBlock = some r → w.heap.size ≤ r ∧ r < wr.heap.size := fun r e => ownBlock_lt h.said e
  refine ⟨fun i hi => ?_, fun i b hi hf => ?_, h.dis, ?_, ?_, h.offp, fun i b hi hf e2 => ?_, ?_, ?_⟩
  · obtain ⟨m, va, vk, hq⟩ := hx.pic i hi
    exact ⟨m, va, vk, hq.keep (by rw [size_alloc']; exact hgs) (fun k hk hfk => hg.block k hk (fun e => h.offs i k hi hfk e.symm)) fun _ h => h⟩
  · have := h.lo i b hi hf
    omega
  · refine rowGrown hx.pics hg fun r e e2 => ?_
    rcases h.ne with h1 | h1
    · rw [h1] at e
      cases e
    · exact h1 (e.trans e2.symm)
  · rw [List.length_append, List.length_singleton, flatE_append]
    simpa [flatE] using ho
  · have e2 : g = b := by simpa [Value.ownBlock] using e2
    subst e2
    have hlo := h.lo i g hi hf
    rcases hH with h1 | h1
    · exact h.offs i g hi hf h1
    · omega
  · refine .inr fun e2 => ?_
    have e2 : some g = vp.ownBlock := e2
    rcases hH with h1 | h1
    · rcases h.ne with h3 | h3
      · rw [h3] at h1
        cases h1
      · exact h3 (h1.trans e2)
    · have := ownBlock_lt h.pics e2.symm
      omega
  · exact hx.below.grown hg (by rw [size_alloc']; omega) fun r e => (hvs r e).1
end
end Go.Proofs.Ytngigogaiheckaa
