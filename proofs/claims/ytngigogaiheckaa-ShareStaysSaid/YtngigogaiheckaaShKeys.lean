/- share: slices.SortFunc over keys by strings.Compare. -/
import Derived.Test.YtngigogaiheckaaShSort
import Derived.Test.YtngigogaiheckaaShShelf
import Derived.Test.YtngigogaiheckaaShMin
namespace Go.Proofs.Ytngigogaiheckaa
open Go.RowKit Go.Lib Go.Maps Go.Shelf Go.Sort

def cfStr (a b : ByteArray) : Int := Lib.compareBytes a.data.toList b.data.toList
theorem ltStr (x y : ByteArray) : ltOf cfStr x y = decide (cfStr x y < 0) := rfl
theorem swoStr : SWO (ltOf cfStr) where
  irrefl x := by
    rw [ltStr]
    unfold cfStr
    rw [cb_self]
    rfl
  trans x y z h1 h2 := by
    rw [ltStr, decide_eq_true_eq] at *
    exact cb_trans h1 h2
  ntrans x y z h1 h2 := by
    rw [ltStr, decide_eq_false_iff_not] at *
    unfold cfStr at *
    intro h3
    have n1 := cb_neg x.data.toList y.data.toList
    have n2 := cb_neg y.data.toList z.data.toList
    rcases Int.lt_or_eq_of_le (show compareBytes y.data.toList x.data.toList ≤ 0 by omega) with h4 | h4
    · exact h2 (cb_trans h4 h3)
    · rw [← cb_zero h4] at h3
      exact h2 h3
theorem cmpStr_lays (blk off size : Nat) (w : World) : CmpLays1 Try.prog 51 #[] Value.string cfStr blk off size w := by
  intro m os dk _ x y
  refine (Any.strings_Compare Try.cmpStr x y (sortWorld Value.string w blk off m dk os)).mono ?_
  rintro e w' ⟨h1, rfl⟩
  exact ⟨h1, 0, #[], by simp [grow, World.drewN]⟩
/-- a row's cells hold its strings -/
theorem holdsStr {w : World} {base g cap n : Nat} {e : TypeId} {l : List ByteArray} (h : w.ownsRow base e 1 (.slice (some ⟨g, 0, none⟩) n cap) n (l.map Value.string)) (hn : n = l.length) : Holds Value.string w g 0 l.toArray := by
  subst hn
  intro t ht
  simp at ht
  rcases h.2 with ⟨h0, -⟩ | ⟨g', cap', cur, hv, -, hh, -, -, -, htk⟩
  · cases h0
  cases hv
  refine ⟨?_, by simp [World.frozen?, hh]⟩
  have e5 : (cur.toList.take (l.length * 1))[t]? = some (.string l[t]) := by rw [htk]; simp [ht]
  rw [List.getElem?_take_of_lt (by omega), Array.getElem?_toList] at e5
  simp only [World.cell?, hh, Nat.zero_add]
  simp [ht]
  simpa using e5
theorem grownStr {w : World} {g n : Nat} {os : Array Obj} (d : Array ByteArray) : w.grownBy (sortWorld Value.string w g 0 n d os) (some g) := by
  refine ⟨rfl, rfl, rfl, by simp [sortWorld], fun k hk hne => ?_⟩
  unfold sortWorld
  rw [heap_grow_old _ _ (by simpa using hk)]
  have : g ≠ k := fun e => hne (by rw [e])
  simp [putRow, mapBlock, Sort.ahead, Array.getElem?_modify, this]
theorem cellsStr {w : World} {g n : Nat} {os : Array Obj} {d0 d : Array ByteArray} (hg : g < w.heap.size) (h : Holds Value.string w g 0 d0) (hs : d.size = d0.size) (k : Nat) (x : ByteArray) (hx : d.toList[k]? = some x) :
    (sortWorld Value.string w g 0 n d os).cell? ⟨g, k, none⟩ = some (.string x) := by
  have hk : k < d.size := by
    have := (List.getElem?_eq_some_iff.1 hx).1
    simpa using this
  have h' : Holds Value.string (Sort.ahead w n) g 0 d0 := h
  have c := cell?_putRow Value.string (Sort.ahead w n) g 0 d0 d h' hs k hk
  have e1 : d[k]! = x := by
    rw [Array.getElem?_toList] at hx
    simp [Array.getElem!_eq_getD, Array.getD_eq_getD_getElem?, hx]
  rw [e1, Nat.zero_add] at c
  have hgg : g < (putRow Value.string (Sort.ahead w n) g 0 d).heap.size := by simpa using hg
  unfold sortWorld
  exact (World.cell?_of_block (heap_grow_old _ _ hgg)).trans c
/-- the keys in order -/
theorem sort_keys (v : Value) (ks : List ByteArray) (base : Nat) (w : World) (h : w.ownsRow base 9 1 v ks.length (ks.map Value.string)) (hnd : ks.Nodup) (hcap : ks.length ≤ 1000000000) :
    Calls Try.prog 50 #[v, .func (.func 51) #[] #[]] w fun e w' => e = .returned (.tuple #[]) ∧ w.grownBy w' v.ownBlock ∧
      ∃ ks' : List ByteArray, ks'.length = ks.length ∧ (∀ k, k ∈ ks' ↔ k ∈ ks) ∧ ks'.Pairwise (fun a b => Lib.compareBytes a.data.toList b.data.toList < 0) ∧ ∀ g cap, v = .slice (some ⟨g, 0, none⟩) ks.length cap → 0 < ks.length → ∀ (k : Nat) (s : ByteArray), ks'[k]? = some s → w'.cell? ⟨g, k, none⟩ = some (.string s) := by
  rcases Nat.eq_zero_or_pos ks.length with h0 | h0
  · have hl0 : ks = [] := List.eq_nil_of_length_eq_zero h0
    subst hl0
    obtain ⟨p, cap, rfl⟩ : ∃ p cap, v = .slice p 0 cap := rowSlice h
    refine (AnyF.slices_SortFunc_none { Try.sortStr with } p cap (.func (.func 51) #[] #[]) w).mono ?_
    rintro e w' ⟨rfl, rfl⟩
    exact ⟨rfl, ⟨rfl, rfl, rfl, Nat.le_refl _, fun _ _ _ => rfl⟩, [], rfl, fun k => Iff.rfl, List.Pairwise.nil, fun g cap _ h => by simp at h⟩
  · obtain ⟨g, cap, rfl, hb, hlt⟩ := h.form h0
    have hH := holdsStr h rfl
    have eg : ∀ args w, (callFunc 51 args).run Try.prog w = .ok (.enter 51 args) w := enters_of Try.func51 (by kernel_rfl) rfl
    have hsz : ks.toArray.size = ks.length := by simp
    have hcon := Any.slices_SortFunc Try.sortStr Value.string (fun _ => rfl) cfStr swoStr 51 #[] g 0 cap ks.toArray w eg (cmpStr_lays g 0 _ w) hH hlt (by rw [hsz]; omega)
    rw [hsz] at hcon
    refine hcon.mono ?_
    rintro e w' ⟨rfl, d', n, os, hp, hs, rfl⟩
    obtain ⟨hz, -, hpm⟩ := hp
    rw [hsz] at hz
    have x1 : d'.extract 0 ks.length = d' := by rw [← hz]; exact Array.extract_size
    have x2 : ks.toArray.extract 0 ks.length = ks.toArray := by
      have : ks.length = ks.toArray.size := hsz.symm
      rw [this]
      exact Array.extract_size
    rw [x1, x2] at hpm
    have hnd' : d'.toList.Nodup := hpm.nodup_iff.2 hnd
    refine ⟨rfl, grownStr d', d'.toList, by simpa using hz, fun k => hpm.mem_iff, ?_, ?_⟩
    · rw [List.pairwise_iff_getElem]
      intro i j hi hj hij
      have hi' : i < d'.size := by simpa using hi
      have hj' : j < d'.size := by simpa using hj
      have := hs i j (Nat.zero_le _) hij (by rw [← hz]; exact hj')
      rw [ltStr] at this
      simp only [getElem!_pos d' j hj', getElem!_pos d' i hi', decide_eq_false_iff_not] at this
      unfold cfStr at this
      have n1 := cb_neg d'[i].data.toList d'[j].data.toList
      simp only [Array.getElem_toList]
      rcases Int.lt_or_eq_of_le (show compareBytes d'[i].data.toList d'[j].data.toList ≤ 0 by omega) with h4 | h4
      · exact h4
      · exfalso
        have e1 : d'[i] = d'[j] := by
          have := cb_zero h4
          exact ByteArray.ext (Array.toList_inj.1 this)
        exact List.pairwise_iff_getElem.1 hnd' i j hi hj hij (by simpa using e1)
    · intro g' cap' e _ k s hk
      cases e
      exact cellsStr hlt hH (by rw [hz, hsz]) k s hk
end Go.Proofs.Ytngigogaiheckaa
