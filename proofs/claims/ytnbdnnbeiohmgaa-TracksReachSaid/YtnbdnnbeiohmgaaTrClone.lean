/- slices.Clone and slices.Reverse, of spots. -/
import Derived.Test.YtnbdnnbeiohmgaaShelf2
import Derived.Test.YtnbdnnbeiohmgaaTkA
import Derived.Test.YtnbdnnbeiohmgaaLgConcat
import Derived.Test.YtnbdnnbeiohmgaaGrCells
import Derived.Test.YtnbdnnbeiohmgaaGrB
namespace Go.Proofs.Ytnbdnnbeiohmgaa
open Go.RowKit Go.Shelf Go.Sort Go.Lib

theorem holdsC {w : World} {base g cap n : Nat} {e : TypeId} {l : List (Int × Int)} (h : w.ownsRow base e 2 (.slice (some ⟨g, 0, none⟩) n cap) n (flatE encC l)) (hn : n = l.length) : HoldsK encC 2 w g 0 l.toArray := by
  subst hn
  intro t ht
  simp at ht
  rcases h.2 with ⟨h0, -⟩ | ⟨g', cap', cur, hv, -, hh, -, -, -, htk⟩
  · cases h0
  cases hv
  refine ⟨?_, by simp [World.frozen?, hh]⟩
  have hk : t / 2 < l.length := by omega
  rw [get_flatK _ _ _ _ (by simpa using ht)]
  have e1 : l.toArray[t / 2]! = l[t / 2] := by simp [hk]
  rw [e1]
  have hi : t % 2 < 2 := Nat.mod_lt _ (by omega)
  have e3 : (encC l[t / 2])[t % 2]? = some ((encC l[t / 2])[t % 2]!) := by
    have : t % 2 = 0 ∨ t % 2 = 1 := by omega
    rcases this with h | h <;> rw [h] <;> rfl
  have e4 := flatE_get (enc := encC) (k := 2) (fun _ => rfl) l (t / 2) (t % 2) _ _ (List.getElem?_eq_getElem hk) e3
  rw [show t / 2 * 2 + t % 2 = t by omega] at e4
  have e5 : (cur.toList.take (l.length * 2))[t]? = some ((encC l[t / 2])[t % 2]!) := by rw [htk]; exact e4
  rw [List.getElem?_take_of_lt (by omega), Array.getElem?_toList] at e5
  simp only [World.cell?, hh, Nat.zero_add]
  simpa using e5

theorem grownC {w : World} {g n : Nat} (d : Array (Int × Int)) : w.grownBy (putRowK encC 2 (Sort.ahead w n) g 0 d) (some g) := by
  refine ⟨rfl, rfl, rfl, by simp [putRowK], fun k hk hne => ?_⟩
  have : g ≠ k := fun e => hne (by rw [e])
  simp [putRowK, putRow, mapBlock, Sort.ahead, Array.getElem?_modify, this]

theorem cellsCC {w : World} {g n : Nat} {d0 d : Array (Int × Int)} (h : HoldsK encC 2 w g 0 d0) (hs : d.size = d0.size) (k : Nat) (x : Int × Int) (hx : d.toList[k]? = some x) :
    (putRowK encC 2 (Sort.ahead w n) g 0 d).cell? ⟨g, 0 + k * 2, none⟩ = some (.int .i64 x.1) ∧ (putRowK encC 2 (Sort.ahead w n) g 0 d).cell? ⟨g, 0 + k * 2 + 1, none⟩ = some (.int .i64 x.2) := by
  have hk : k < d.size := by
    have := (List.getElem?_eq_some_iff.1 hx).1
    simpa using this
  have key : ∀ i v, i < 2 → (encC x)[i]? = some v → (putRowK encC 2 (Sort.ahead w n) g 0 d).cell? ⟨g, 0 + (k * 2 + i), none⟩ = some v := by
    intro i v hi hv
    have h' : Holds id (Sort.ahead w n) g 0 (flatK encC 2 d0) := h
    have c := cell?_putRow id (Sort.ahead w n) g 0 (flatK encC 2 d0) (flatK encC 2 d) h' (by simp [hs]) (k * 2 + i) (by simp; omega)
    rw [get_flatK _ _ _ _ (by omega), show (k * 2 + i) / 2 = k by omega, show (k * 2 + i) % 2 = i by omega] at c
    have e1 : d[k]! = x := by
      rw [Array.getElem?_toList] at hx
      simp [Array.getElem!_eq_getD, Array.getD_eq_getD_getElem?, hx]
    rw [e1] at c
    have e2 : (encC x)[i]! = v := by simp [List.getElem!_eq_getElem?_getD, hv]
    rw [e2] at c
    exact c
  exact ⟨by simpa using key 0 _ (by omega) rfl, by simpa [Nat.add_assoc] using key 1 _ (by omega) rfl⟩

theorem reverse_sp (v : Value) (l : List (Int × Int)) (base : Nat) (w : World) (h : w.ownsRow base 26 2 v l.length (flatE encC l)) (h0 : 0 < l.length) (hcap : l.length ≤ 1000000) (hb : base ≤ w.heap.size) :
    Calls Try.prog 32 #[v] w fun e w' => e = .returned (.tuple #[]) ∧ Spots w' v l.reverse ∧ Below base w w' := by
  have hlst := Lst_of_own (enc := encC) (k := 2) (fun _ => rfl) h rfl
  obtain ⟨g, cap, rfl, hbg, hlt⟩ := h.form h0
  have hH := holdsC h rfl
  have hcon := AnyQ.slices_Reverse Try.revSpot 2 Try.isAgg26 Try.sizeOf26 encC (fun _ => rfl) (fun x v hv => by simp [encC] at hv; rcases hv with rfl | rfl <;> rfl) g 0 cap l.toArray w hH (by simp; omega)
  have hsz : l.toArray.size = l.length := by simp
  rw [hsz] at hcon
  refine hcon.mono ?_
  rintro e w' ⟨rfl, n, rfl⟩
  obtain ⟨A, c, e1, e2, e3, -⟩ := hlst
  cases e1
  have hgr := grownC (w := w) (g := g) (n := n) l.toArray.reverse
  refine ⟨rfl, ⟨_, cap, by rw [List.length_reverse], by rw [List.length_reverse]; exact e2, e3, fun _ => ⟨g, 0, rfl, Nat.lt_of_lt_of_le hlt hgr.size, fun k s hs => ?_⟩⟩, hgr.os, hgr.tape, hgr.output, hgr.size, fun k hk => hgr.block k (by omega) (fun e => by cases e; omega)⟩
  exact cellsCC hH (by simp) k s (by simpa using hs)

theorem infoSp : (Try.prog.info? 26).map (fun i => (i.zero, i.size, i.bytes)) = some (some (.agg #[.int .i64 0, .int .i64 0]), 2, 16) := by kernel_rfl
theorem clone_sp (v : Value) (l : List (Int × Int)) (w : World) (h : Spots w v l) (h0 : 0 < l.length) (hcap : l.length ≤ 1000000) :
    Calls Try.prog 31 #[v] w fun e w' => (∃ v', e = .returned v' ∧ w'.ownsRow w.heap.size 26 2 v' l.length (flatE encC l)) ∧ Below w.heap.size w w' := by
  obtain ⟨A, c, rfl, h1, h2, h3⟩ := h
  obtain ⟨b, off, rfl, hbl, hcc⟩ := h3 h0
  obtain ⟨i0, hi, hz0, hz1, hz2⟩ := info_parts infoSp
  refine (AnyE.slices_Clone Try.cloneSpot i0 (.agg #[.int .i64 0, .int .i64 0]) 2 16 hi hz0 hz1 hz2 rfl (by omega) Try.sizeOf26 b off l.length c (flatE encC l) w (flatE_length (enc := encC) (k := 2) (fun _ => rfl) l) (by unfold maxLen; omega) (by omega) (fun j u hu => ?_) (fun u hu => ?_)).mono ?_
  · obtain ⟨x, hx, hu2⟩ := flatE_inv (enc := encC) (k := 2) (fun _ => rfl) (by omega) hu
    have hcx := hcc _ _ hx
    have hj : j % 2 = 0 ∨ j % 2 = 1 := by omega
    rcases hj with hj | hj <;> rw [hj] at hu2
    · simp [encC] at hu2
      subst hu2
      rw [show off + j = off + j / 2 * 2 by omega]
      exact hcx.1
    · simp [encC] at hu2
      subst hu2
      rw [show off + j = off + j / 2 * 2 + 1 by omega]
      exact hcx.2
  · obtain ⟨x, -, hx⟩ := List.mem_flatMap.1 hu
    simp [encC] at hx
    rcases hx with rfl | rfl <;> rfl
  · rintro e w' ⟨v', rfl, h5, -, h6⟩
    exact ⟨⟨v', rfl, h5⟩, h6⟩
end Go.Proofs.Ytnbdnnbeiohmgaa
