/- share: two pictures in the memory; awake. -/
import Derived.Test.YtngigogaiheckaaShAwk
namespace Go.Proofs.Ytngigogaiheckaa
open Go.RowKit Go.Shelf Go.Lib Go.Maps

/-- two pictures, laid since w; what is among K is nobody's -/
def Two (w wr : World) (a b : Nat) (la lb : List Sd) (K : Nat → Prop) (Fa Fb : Nat → Prop) : Prop := Pic wr Fa a 1 la ∧ Pic wr Fb b 2 lb ∧ (∀ x, Fa x → w.heap.size ≤ x ∧ x < wr.heap.size) ∧ (∀ x, Fb x → w.heap.size ≤ x ∧ x < wr.heap.size) ∧ (∀ x, Fa x → ¬ Fb x) ∧ (∀ x, K x → x < wr.heap.size ∧ ¬ Fa x ∧ ¬ Fb x) ∧ Below w.heap.size w wr
section
variable {w wr wx : World} {a b : Nat} {la lb : List Sd} {K Fa Fb : Nat → Prop}
theorem Two.below (h : Two w wr a b la lb K Fa Fb) : Below w.heap.size w wr := by
  exact h.2.2.2.2.2.2
theorem Two.on (h : Two w wr a b la lb K Fa Fb) (hb : Below wr.heap.size wr wx) : Two w wx a b la lb K Fa Fb := by
  obtain ⟨h1, h2, h3, h4, h5, h6, h7⟩ := h
  have hs := hb.size
  exact ⟨h1.below hb, h2.below hb, fun x hx => ⟨(h3 x hx).1, Nat.lt_of_lt_of_le (h3 x hx).2 hs⟩, fun x hx => ⟨(h4 x hx).1, Nat.lt_of_lt_of_le (h4 x hx).2 hs⟩, h5, fun x hx => ⟨Nat.lt_of_lt_of_le (h6 x hx).1 hs, (h6 x hx).2⟩, h7.trans (hb.mono h7.size)⟩
/-- new blocks are nobody's -/
theorem Two.hold (h : Two w wr a b la lb K Fa Fb) (hb : Below wr.heap.size wr wx) : Two w wx a b la lb (fun x => K x ∨ (wr.heap.size ≤ x ∧ x < wx.heap.size)) Fa Fb := by
  have h7 := (h.on hb).below
  obtain ⟨k1, k2, k3, k4, k5, k6, k7⟩ := h
  have hs := hb.size
  refine ⟨k1.below hb, k2.below hb, fun x hx => ⟨(k3 x hx).1, Nat.lt_of_lt_of_le (k3 x hx).2 hs⟩, fun x hx => ⟨(k4 x hx).1, Nat.lt_of_lt_of_le (k4 x hx).2 hs⟩, k5, fun x hx => ?_, h7⟩
  rcases hx with hx | hx
  · exact ⟨Nat.lt_of_lt_of_le (k6 x hx).1 hs, (k6 x hx).2⟩
  · exact ⟨hx.2, fun e => by have := (k3 x e).2; omega, fun e => by have := (k4 x e).2; omega⟩
theorem Two.start (w : World) {p : Nat} {w1 : World} (h1 : Pic w1 (Gr (fun _ => False) w w1) a 1 []) (b1 : Below w.heap.size w w1) (h2 : Pic wx (Gr (fun _ => False) w1 wx) p 2 []) (b2 : Below w1.heap.size w1 wx) : Two w wx a p [] [] (fun _ => False) (Gr (fun _ => False) w w1) (Gr (fun _ => False) w1 wx) := by
  have s1 := b1.size
  have s2 := b2.size
  refine ⟨h1.below b2, h2, fun x hx => ?_, fun x hx => ?_, fun x hx e => ?_, fun x hx => hx.elim, b1.trans (b2.mono s1)⟩
  · rcases hx with hx | hx
    · exact hx.elim
    · omega
  · rcases hx with hx | hx
    · exact hx.elim
    · omega
  · rcases hx with hx | hx
    · exact hx
    · rcases e with e | e
      · exact e
      · omega
/-- what a call that turns one of them keeps -/
theorem Two.turnA {la' : List Sd} (h : Two w wr a b la lb K Fa Fb) (g1 : Pic wx (Gr Fa wr wx) a 1 la') (g2 : Ext Fa wr wx) : Two w wx a b la' lb K (Gr Fa wr wx) Fb ∧ ∀ x, K x → wx.heap[x]? = wr.heap[x]? := by
  obtain ⟨k1, k2, k3, k4, k5, k6, k7⟩ := h
  have hs := g2.size
  have hw := k7.size
  refine ⟨⟨g1, k2.ext g2 (fun x hx e => k5 x e hx), fun x hx => ?_, fun x hx => ⟨(k4 x hx).1, Nat.lt_of_lt_of_le (k4 x hx).2 hs⟩, fun x hx e => ?_, fun x hx => ⟨Nat.lt_of_lt_of_le (k6 x hx).1 hs, ?_, (k6 x hx).2.2⟩, ?_⟩, fun x hx => g2.block x (k6 x hx).1 (k6 x hx).2.1⟩
  · rcases hx with hx | hx
    · have := k3 x hx
      omega
    · omega
  · rcases hx with hx | hx
    · exact k5 x hx e
    · have := k4 x e
      omega
  · rintro (e | e)
    · exact (k6 x hx).2.1 e
    · have := (k6 x hx).1
      omega
  · exact k7.trans (belowExt g2 (fun x hx => (k3 x hx).1) k7.size)
theorem Two.turnB {lb' : List Sd} (h : Two w wr a b la lb K Fa Fb) (g1 : Pic wx (Gr Fb wr wx) b 2 lb') (g2 : Ext Fb wr wx) : Two w wx a b la lb' K Fa (Gr Fb wr wx) ∧ ∀ x, K x → wx.heap[x]? = wr.heap[x]? := by
  obtain ⟨k1, k2, k3, k4, k5, k6, k7⟩ := h
  have hs := g2.size
  have hw := k7.size
  refine ⟨⟨k1.ext g2 (fun x hx e => k5 x hx e), g1, fun x hx => ⟨(k3 x hx).1, Nat.lt_of_lt_of_le (k3 x hx).2 hs⟩, fun x hx => ?_, fun x hx e => ?_, fun x hx => ⟨Nat.lt_of_lt_of_le (k6 x hx).1 hs, (k6 x hx).2.1, ?_⟩, ?_⟩, fun x hx => g2.block x (k6 x hx).1 (k6 x hx).2.2⟩
  · rcases hx with hx | hx
    · have := k4 x hx
      omega
    · omega
  · rcases e with e | e
    · exact k5 x hx e
    · have := k3 x hx
      omega
  · rintro (e | e)
    · exact (k6 x hx).2.2 e
    · have := (k6 x hx).1
      omega
  · exact k7.trans (belowExt g2 (fun x hx => (k4 x hx).1) k7.size)
theorem Two.rowK {base n : Nat} {e : TypeId} {z : Nat} {v : Value} {xs : List Value} (hr : wr.ownsRow base e z v n xs) (hk : ∀ x, K x → wx.heap[x]? = wr.heap[x]?) (hv : ∀ x, v.ownBlock = some x → K x) : wx.ownsRow base e z v n xs := ownsBlocks' hr fun x hx => hk x (hv x hx)
theorem Two.say1 (h : Two w wr a b la lb K Fa Fb) (hn : Nums la) (hl : la.length ≤ 900) (t : Sd) (hs : saidB (sayOf 1 la t) = true) :
    Calls Try.prog 26 #[.pointer (some ⟨a, 0, none⟩), .string t.key, .string t.val, .int .i64 t.time, .int .i64 t.trust, .int .i64 t.back] wr fun e w' => (e = .returned (.tuple #[valSd (sayOf 1 la t), .int .i64 0])) ∧ (∃ Fa' Fb', Two w w' a b (la ++ [sayOf 1 la t]) lb K Fa' Fb') ∧ ∀ x, K x → w'.heap[x]? = wr.heap[x]? := by
  refine (say_sh wr h.1 (fun x hx => (h.2.2.1 x hx).2) (by omega) hn hl t).mono ?_
  rintro e w' (⟨-, rfl, h2, h3⟩ | ⟨h1, -, -⟩)
  · obtain ⟨g1, g2⟩ := h.turnA h2 h3
    exact ⟨rfl, ⟨_, _, g1⟩, g2⟩
  · rw [hs] at h1
    cases h1
theorem Two.say2 (h : Two w wr a b la lb K Fa Fb) (hn : Nums lb) (hl : lb.length ≤ 900) (t : Sd) (hs : saidB (sayOf 2 lb t) = true) :
    Calls Try.prog 26 #[.pointer (some ⟨b, 0, none⟩), .string t.key, .string t.val, .int .i64 t.time, .int .i64 t.trust, .int .i64 t.back] wr fun e w' => (e = .returned (.tuple #[valSd (sayOf 2 lb t), .int .i64 0])) ∧ (∃ Fa' Fb', Two w w' a b la (lb ++ [sayOf 2 lb t]) K Fa' Fb') ∧ ∀ x, K x → w'.heap[x]? = wr.heap[x]? := by
  refine (say_sh wr h.2.1 (fun x hx => (h.2.2.2.1 x hx).2) (by omega) hn hl t).mono ?_
  rintro e w' (⟨-, rfl, h2, h3⟩ | ⟨h1, -, -⟩)
  · obtain ⟨g1, g2⟩ := h.turnB h2 h3
    exact ⟨rfl, ⟨_, _, g1⟩, g2⟩
  · rw [hs] at h1
    cases h1
theorem Two.take2 (h : Two w wr a b la lb K Fa Fb) {v : Value} {l : List Sd} (hv : Lst 7 encSd wr v l) (hn : Nums lb) (hok : ∀ s, s ∈ l → saidB s = true) (hsame : ∀ s, s ∈ l → ∀ t, t ∈ lb ∨ t ∈ l → sameP s t → s = t) (hl : lb.length + l.length ≤ 900) :
    Calls Try.prog 14 #[.pointer (some ⟨b, 0, none⟩), v] wr fun e w' => (e = .returned (.tuple #[.int .i64 (fresh lb l).length, .int .i64 0])) ∧ (∃ Fa' Fb', Two w w' a b la (lb ++ fresh lb l) K Fa' Fb') ∧ ∀ x, K x → w'.heap[x]? = wr.heap[x]? := by
  refine (take_sh wr h.2.1 (fun x hx => (h.2.2.2.1 x hx).2) v l hv hn hok hsame hl).mono ?_
  rintro e w' ⟨rfl, h2, h3⟩
  obtain ⟨g1, g2⟩ := h.turnB h2 h3
  exact ⟨rfl, ⟨_, _, g1⟩, g2⟩
end
end Go.Proofs.Ytngigogaiheckaa
