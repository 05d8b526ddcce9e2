/- Leaves of the document's outline: the cells beside a cell; the cell ahead to the left of a corner; two tracks that are the same; stores into a set. -/
import Derived.ArgAppend
import Derived.Test.YtnbdnnbeiohmgaaDoorOtWalk
import Derived.Test.YtnbdnnbeiohmgaaDoorLgOf
import Derived.Test.YtnbdnnbeiohmgaaDoorTkB
namespace Go.Proofs.YtnbdnnbeiohmgaaDoor
open Go.RowKit Go.Maps Go.Shelf Go.Lib

/-- the cells beside one, in the document's order -/
def sidesQ (c : Int × Int) : List (Int × Int) := [(c.1, c.2 - 1), (c.1 - 1, c.2), (c.1 + 1, c.2), (c.1, c.2 + 1)]
theorem sidesQ_mem {c e : Int × Int} : e ∈ sidesQ c ↔ e ∈ sidesL c := by
  simp only [sidesQ, sidesL, List.mem_cons, List.not_mem_nil, or_false]
  constructor
  · rintro (h | h | h | h) <;> simp [h]
  · rintro (h | h | h | h) <;> simp [h]
set_option maxHeartbeats 2000000 in
theorem sides_ref (x y : Int) (w : World) (hx : -1 ≤ x ∧ x ≤ 100000) (hy : -1 ≤ y ∧ y ≤ 100000) :
    Calls Tryd.prog 70 #[.agg #[.int .i64 x, .int .i64 y]] w fun e w' => (∃ g, e = .returned (.slice (some ⟨g, 0, none⟩) 4 4) ∧ w.heap.size ≤ g ∧ w'.heap[g]? = some (.cells #[.int .i64 x, .int .i64 (y - 1), .int .i64 (x - 1), .int .i64 y, .int .i64 (x + 1), .int .i64 y, .int .i64 x, .int .i64 (y + 1)] 77 (0, 0))) ∧ Below w.heap.size w w' := by
  go_enter Tryd.func70, Tryd.ntmps70
  go_wp2_with fail
  go_ret
  refine ⟨⟨_, rfl, by omega, ?_⟩, ((Below.refl _ _).alloc (Nat.le_refl _) _).alloc (by simp) _⟩
  have h := heap_alloc_new (w.alloc (.cells #[.int .i64 x, .int .i64 y] 77)) (.cells #[.int .i64 x, .int .i64 (y - 1), .int .i64 (x - 1), .int .i64 y, .int .i64 (x + 1), .int .i64 y, .int .i64 x, .int .i64 (y + 1)] 77)
  rw [size_allocO] at h
  exact h
theorem sideQ_at {w : World} {g : Nat} {x y : Int} (h : w.heap[g]? = some (.cells #[.int .i64 x, .int .i64 (y - 1), .int .i64 (x - 1), .int .i64 y, .int .i64 (x + 1), .int .i64 y, .int .i64 x, .int .i64 (y + 1)] 77 (0, 0))) {i : Nat} {d : Int × Int} (hd : (sidesQ (x, y))[i]? = some d) :
    w.cell? ⟨g, i * 2, none⟩ = some (.int .i64 d.1) ∧ w.cell? ⟨g, i * 2 + 1, none⟩ = some (.int .i64 d.2) := by
  have hi : i < 4 := by
    have := (List.getElem?_eq_some_iff.1 hd).1
    simpa [sidesQ] using this
  have : i = 0 ∨ i = 1 ∨ i = 2 ∨ i = 3 := by omega
  rcases this with rfl | rfl | rfl | rfl <;> (simp [sidesQ] at hd; subst hd; simp [World.cell?, h])

set_option maxHeartbeats 2000000 in
theorem cell_ref (x y : Int) (q : Nat) (u v : Int) (w : World) (hq : q < 4) (hu : dirO q = (u, v)) (hx : 0 ≤ x ∧ x ≤ 100000) (hy : 0 ≤ y ∧ y ≤ 100000) :
    Calls Tryd.prog 31 #[.int .i64 x, .int .i64 y, .int .i64 u, .int .i64 v] w fun e w' => e = .returned (.agg #[.int .i64 (x + (corO q).1), .int .i64 (y + (corO q).2)]) ∧ Below w.heap.size w w' := by
  have h4 : q = 0 ∨ q = 1 ∨ q = 2 ∨ q = 3 := by omega
  rcases h4 with rfl | rfl | rfl | rfl
  all_goals
    simp only [dirO, Prod.mk.injEq] at hu
    obtain ⟨rfl, rfl⟩ := hu
    go_enter Tryd.func31, Tryd.ntmps31
    go_wp2_with fail
  · exact bodyPost_ret (v := .agg #[.int .i64 (x + 0), .int .i64 (y + 0)]) (by simp [results, Tryd.results31, go_sem]) rfl ⟨rfl, (Below.refl _ _).alloc (Nat.le_refl _) _⟩
  · exact bodyPost_ret (v := .agg #[.int .i64 (x + -1), .int .i64 (y + 0)]) (by simp [results, Tryd.results31, go_sem]; try omega) rfl ⟨rfl, (Below.refl _ _).alloc (Nat.le_refl _) _⟩
  · exact bodyPost_ret (v := .agg #[.int .i64 (x + -1), .int .i64 (y + -1)]) (by simp [results, Tryd.results31, go_sem]; try omega) rfl ⟨rfl, (Below.refl _ _).alloc (Nat.le_refl _) _⟩
  · exact bodyPost_ret (v := .agg #[.int .i64 (x + 0), .int .i64 (y + -1)]) (by simp [results, Tryd.results31, go_sem]; try omega) rfl ⟨rfl, (Below.refl _ _).alloc (Nat.le_refl _) _⟩

set_option maxHeartbeats 1000000 in
theorem same_08 (a b : Value) (l : List (Int × Int)) (w : World) (ha : Spots w a l) (hb : Spots w b l) :
    Calls Tryd.prog 32 #[a, b] w fun e w' => e = .returned (.bool true) ∧ Below w.heap.size w w' := by
  obtain ⟨A, c, rfl, h1, h2, h3⟩ := ha
  obtain ⟨A', c', rfl, h1', h2', h3'⟩ := hb
  unfold maxLen at h2 h2'
  have t0 : ((l.length : Int) != (l.length : Int)) = false := by simp
  go_enter Tryd.func32, Tryd.ntmps32
  go_wp2_with fail
  go_loopw [5] (fun i wr => ∃ k : Nat, k ≤ l.length ∧ i = .int .i64 k ∧ Below w.heap.size w wr) (fun i _ => l.length - (intOf i).toNat)
  case atStart => exact ⟨0, Nat.zero_le _, rfl, Below.refl _ _⟩
  case round =>
    obtain ⟨k, hk, rfl, hb⟩ := hrel
    by_cases hlt : k < l.length
    · obtain ⟨b, off, rfl, hbl, hc⟩ := h3 (by omega)
      obtain ⟨b', off', rfl, hbl', hc'⟩ := h3' (by omega)
      obtain ⟨⟨x, y⟩, hs⟩ : ∃ s, l[k]? = some s := ⟨_, List.getElem?_eq_getElem hlt⟩
      have hx := (hb.cell (p := ⟨b, off + k * 2, none⟩) hbl).trans (hc k _ hs).1
      have hy := (hb.cell (p := ⟨b, off + k * 2 + 1, none⟩) hbl).trans (hc k _ hs).2
      have hx' := (hb.cell (p := ⟨b', off' + k * 2, none⟩) hbl').trans (hc' k _ hs).1
      have hy' := (hb.cell (p := ⟨b', off' + k * 2 + 1, none⟩) hbl').trans (hc' k _ hs).2
      clear hs hc h3 hc' h3' t0
      dsimp only at hx hy hx' hy'
      have hneq := neq_same x y
      have hi : (k : Int) < (l.length : Int) := by omega
      go_wp2_with fail
      go_quiet (fail)
      go_wp2_with fail
      go_roundw
      case rel => exact ⟨k + 1, by omega, by go_num, ⟨hb.os, hb.tape, hb.output, hb.size, hb.block⟩⟩
      case measure => simp [intOf]; omega
    · have hke : k = l.length := by omega
      subst hke
      clear h3 h3' t0
      go_wp2_with fail
      go_ret
      exact ⟨rfl, hb⟩
end Go.Proofs.YtnbdnnbeiohmgaaDoor
/- A queue of the call's own; stores into a set that holds true alone. -/
namespace Go.Proofs.YtnbdnnbeiohmgaaDoor
open Go.RowKit Go.Maps Go.Shelf Go.Lib

/-- a queue of cells: a slice of the call's own that may begin in the midst of its array -/
def QOwn (w : World) (base : Nat) (v : Value) (Q : List (Int × Int)) : Prop :=
  ∃ g off cap cur, v = .slice (some ⟨g, off, none⟩) Q.length cap ∧ base ≤ g ∧ w.heap[g]? = some (.cells cur 77 (0, 0)) ∧ Q.length ≤ cap ∧ cap ≤ maxLen ∧ off + cap * 2 ≤ cur.size ∧
    ∀ (j : Nat) u, (flatE encC Q)[j]? = some u → cur[off + j]? = some u
theorem QOwn.of {w w' : World} {base : Nat} {v : Value} {Q : List (Int × Int)} (h : QOwn w base v Q) (hb : ∀ g, v.ownBlock = some g → w'.heap[g]? = w.heap[g]?) : QOwn w' base v Q := by
  obtain ⟨g, off, cap, cur, rfl, h1, h2, h3⟩ := h
  exact ⟨g, off, cap, cur, rfl, h1, (hb g rfl).trans h2, h3⟩
theorem QOwn.lt {w : World} {base : Nat} {v : Value} {Q : List (Int × Int)} (h : QOwn w base v Q) {g : Nat} (hg : v.ownBlock = some g) : base ≤ g ∧ g < w.heap.size := by
  obtain ⟨g', off, cap, cur, rfl, h1, h2, h3⟩ := h
  simp only [Value.ownBlock, Option.some.injEq] at hg
  subst hg
  exact ⟨h1, (Array.getElem?_eq_some_iff.1 h2).1⟩
theorem QOwn.below {w w' : World} {base : Nat} {v : Value} {Q : List (Int × Int)} (h : QOwn w base v Q) (hb : Below w.heap.size w w') : QOwn w' base v Q := h.of fun g hg => hb.block g (h.lt hg).2
theorem QOwn.isRun {w : World} {base : Nat} {v : Value} {Q : List (Int × Int)} (h : QOwn w base v Q) {g : Nat} (hg : v.ownBlock = some g) : ∃ cur, w.heap[g]? = some (.cells cur 77 (0, 0)) := by
  obtain ⟨g', off, cap, cur, rfl, h1, h2, h3⟩ := h
  simp only [Value.ownBlock, Option.some.injEq] at hg
  subst hg
  exact ⟨cur, h2⟩
/-- the head of a queue, and what is left without it -/
theorem QOwn.pop {w : World} {base : Nat} {v : Value} {x y : Int} {Q : List (Int × Int)} (h : QOwn w base v ((x, y) :: Q)) :
    ∃ g off cap, v = .slice (some ⟨g, off, none⟩) (Q.length + 1) cap ∧ (base ≤ g ∧ g < w.heap.size) ∧ (1 ≤ cap ∧ Q.length + 1 ≤ cap ∧ cap ≤ maxLen) ∧ w.cell? ⟨g, off, none⟩ = some (.int .i64 x) ∧ w.cell? ⟨g, off + 1, none⟩ = some (.int .i64 y) ∧
      QOwn w base (.slice (if cap = 1 then some ⟨g, off, none⟩ else some ⟨g, off + 2, none⟩) Q.length (cap - 1)) Q := by
  obtain ⟨g, off, cap, cur, rfl, h1, h2, h3, h4, h5, h6⟩ := h
  have e : flatE encC ((x, y) :: Q) = [.int .i64 x, .int .i64 y] ++ flatE encC Q := rfl
  rw [e] at h6
  simp only [List.length_cons] at h3
  have k0 := h6 0 _ rfl
  have k1 := h6 1 _ rfl
  refine ⟨g, off, cap, rfl, ⟨h1, (Array.getElem?_eq_some_iff.1 h2).1⟩, ⟨by omega, h3, h4⟩, by simp [World.cell?, h2]; simpa using k0, by simp [World.cell?, h2]; simpa using k1, ?_⟩
  by_cases hc : cap = 1
  · rw [if_pos hc]
    have : Q = [] := List.eq_nil_of_length_eq_zero (by omega)
    subst this
    exact ⟨g, off, cap - 1, cur, rfl, h1, h2, by simp, by unfold maxLen at h4 ⊢; omega, by omega, fun j u hj => by simp [flatE] at hj⟩
  · rw [if_neg hc]
    refine ⟨g, off + 2, cap - 1, cur, rfl, h1, h2, by omega, by unfold maxLen at h4 ⊢; omega, by omega, fun j u hj => ?_⟩
    have := h6 (2 + j) u (by rw [List.getElem?_append_right (by simp)]; simpa using hj)
    rwa [show off + 2 + j = off + (2 + j) by omega]
theorem QOwn.ofRow {w : World} {base : Nat} {v : Value} {Q : List (Int × Int)} (h : w.ownsRow base 77 2 v Q.length (flatE encC Q)) (h0 : 0 < Q.length) : QOwn w base v Q := by
  obtain ⟨h1, h2⟩ := h
  rcases h2 with ⟨rfl, h2⟩ | ⟨g, cap, cur, rfl, h2, h3, h4, h5, h6, h7⟩
  · rw [h2] at h1
    simp at h1
    omega
  · refine ⟨g, 0, cap, cur, rfl, h2, h3, h4, h5, by omega, fun j u hj => ?_⟩
    rw [← h7, List.getElem?_take] at hj
    split at hj
    · rw [Nat.zero_add]
      simpa using hj
    · simp at hj
theorem infoC2 : (Tryd.prog.info? 77).map (fun i => (i.zero, i.size, i.bytes)) = some (some (.agg #[.int .i64 0, .int .i64 0]), 2, 16) := by kernel_rfl
theorem flatE_snoc2 (Q : List (Int × Int)) (x y : Int) : flatE encC (Q ++ [(x, y)]) = flatE encC Q ++ [.int .i64 x, .int .i64 y] := by simp [flatE, encC]
theorem wpList_append_queue (w : World) {ops : Array Oper} {rest : List Oper} {o : Oper} {a : Act} {K : Exit → Act → World → Prop}
    (hg : o.guard = none) (s x : Operand) (t : TypeId) (hop : o.op = Op.call { callee := Callee.builtin Builtin.append, args := #[s, x], argTypes := #[t, t] }) (ht : Tryd.prog.underlying t = some (.slice 77))
    (base : Nat) (v : Value) (Q : List (Int × Int)) (hs : a.eval s = v) (hq : QOwn w base v Q) (ad : Addr) (c : Nat) (cx cy : Int) (hx : a.eval x = .slice (some ad) 1 c) (hc : ∀ j u, [Value.int .i64 cx, .int .i64 cy][j]? = some u → w.cell? (ad.add j) = some u)
    (hlen : Q.length + 1 ≤ 1000000) (hbase : base ≤ w.heap.size) (H : Nat) (hH : w.heap.size = H)
    (hK : ∀ v' w', QOwn w' base v' (Q ++ [(cx, cy)]) → w.grownBy w' v.ownBlock → (v'.ownBlock = v.ownBlock ∨ ∃ g, v'.ownBlock = some g ∧ H ≤ g) → wpList Tryd.prog ops K rest (a.put o.dst v') w') :
    wpList Tryd.prog ops K (o :: rest) a w := by
  obtain ⟨i0, hi, hz0, hz1, hz2⟩ := info_parts infoC2
  obtain ⟨g, off, cap, cur, rfl, h1, h2, h3, h4, h5, h6⟩ := hq
  have hcell : ∀ j, w.cell? ⟨g, j, none⟩ = cur[j]? := fun j => by simp [World.cell?, h2]
  refine wpList_append_arg w hg s x t hop 77 i0 _ 2 16 ht hi hz0 hz1 hz2 rfl (by omega) g off Q.length cap (flatE encC Q) hs (flatE_length encC_len Q) (fun j u hj => by rw [hcell]; exact h6 j u hj) ad 1 c [.int .i64 cx, .int .i64 cy] hx rfl hc (by simp [Value.oneCell'])
    (fun hr j hj => ⟨?_, ?_⟩) (by unfold maxLen; omega) (by omega) (fun hr => ?_) (fun hr v' w' hown hgr => ?_)
  · rw [hcell]
    simp only [List.length_cons, List.length_nil] at hj
    rw [Array.getElem?_eq_getElem (by omega)]
    rfl
  · simp [World.frozen?, h2]
  · have e : w.setCells g (off + Q.length * 2) [.int .i64 cx, .int .i64 cy] = (w.setCell ⟨g, off + Q.length * 2, none⟩ (.int .i64 cx)).setCell ⟨g, off + Q.length * 2 + 1, none⟩ (.int .i64 cy) := rfl
    rw [e]
    have k1 := heap_setCell_same w g (off + Q.length * 2) _ _ (.int .i64 cx) h2
    have k2 := heap_setCell_same _ g (off + Q.length * 2 + 1) _ _ (.int .i64 cy) k1
    refine hK _ _ ⟨g, off, cap, _, by rw [List.length_append]; rfl, h1, k2, by rw [List.length_append]; exact hr, h4, by simpa using h5, fun j u hj => ?_⟩ ⟨rfl, rfl, rfl, by simp, fun k hk hne => ?_⟩ (.inl rfl)
    · rw [flatE_snoc2] at hj
      have hl := flatE_length (k := 2) encC_len Q
      by_cases hjl : j < Q.length * 2
      · rw [List.getElem?_append_left (by omega)] at hj
        rw [Array.getElem?_setIfInBounds_ne (by omega), Array.getElem?_setIfInBounds_ne (by omega)]
        exact h6 j u hj
      · rw [List.getElem?_append_right (by omega), hl] at hj
        have hj2 : j - Q.length * 2 = 0 ∨ j - Q.length * 2 = 1 := by
          have := (List.getElem?_eq_some_iff.1 hj).1
          simp only [List.length_cons, List.length_nil] at this
          omega
        rcases hj2 with h | h
        · rw [h] at hj
          simp only [List.getElem?_cons_zero, Option.some.injEq] at hj
          subst hj
          rw [Array.getElem?_setIfInBounds_ne (by omega), show off + j = off + Q.length * 2 by omega, Array.getElem?_setIfInBounds_self_of_lt (by omega)]
        · rw [h] at hj
          simp only [List.getElem?_cons_succ, List.getElem?_cons_zero, Option.some.injEq] at hj
          subst hj
          rw [show off + j = off + Q.length * 2 + 1 by omega, Array.getElem?_setIfInBounds_self_of_lt (by simp; omega)]
    · have hne' : k ≠ g := fun e => hne (by rw [e]; rfl)
      rw [heap_setCell_other _ _ _ _ hne', heap_setCell_other _ _ _ _ hne']
  · rw [← flatE_snoc2] at hown
    have hq' : QOwn w' w.heap.size v' (Q ++ [(cx, cy)]) := QOwn.ofRow (by rw [List.length_append]; exact hown) (by simp)
    have hob : ∃ b, v'.ownBlock = some b ∧ H ≤ b := by
      obtain ⟨b, off', cap', cur', rfl, hb, -⟩ := hq'
      exact ⟨b, rfl, by omega⟩
    refine hK v' w' ?_ ⟨hgr.os, hgr.tape, hgr.output, hgr.size, fun k hk _ => hgr.block k hk (by simp)⟩ (.inr hob)
    obtain ⟨b, off', cap', cur', rfl, hb, hrest⟩ := hq'
    exact ⟨b, off', cap', cur', rfl, by omega, hrest⟩

/-! ### stores into a set that holds true alone -/
theorem wpList_lookup_setCu (w : World) {ops : Array Oper} {rest : List Oper} {o : Oper} {a : Act} {Q : Exit → Act → World → Prop}
    (hg : o.guard = none) (m x : Operand) (t : TypeId) (hop : o.op = Op.lookup t m x false) (ht : Tryd.prog.underlying t = some (.map 77 4)) (b n : Nat) (S : Int → Int → Bool)
    (hm : a.eval m = .map (some b)) (hs : SetC w b n S) (cx cy : Int) (u : Bool) (hu : S cx cy = u) (hx : a.eval x = .agg #[.int .i64 cx, .int .i64 cy]) (wx : isI64 cx) (wy : isI64 cy)
    (hK : wpList Tryd.prog ops Q rest (a.put o.dst (.bool u)) w) :
    wpList Tryd.prog ops Q (o :: rest) a w := wpList_lookup_setC w hg m x t hop ht b n S hm hs cx cy hx wx wy (by rw [hu]; exact hK)
theorem wpList_update_setT (w : World) {ops : Array Oper} {rest : List Oper} {o : Oper} {a : Act} {Q : Exit → Act → World → Prop}
    (hg : o.guard = none) (m x v : Operand) (t : TypeId) (hop : o.op = Op.mapUpdate t m x v) (ht : Tryd.prog.underlying t = some (.map 77 4)) (b n : Nat) (S : Int → Int → Bool)
    (hm : a.eval m = .map (some b)) (hs : SetT w b n S) (hn : n < maxLen) (cx cy : Int) (hx : a.eval x = .agg #[.int .i64 cx, .int .i64 cy]) (hv : a.eval v = .bool true) (wx : isI64 cx) (wy : isI64 cy)
    (hK : ∀ w', SetT w' b (n + 1) (fun p q => if p = cx ∧ q = cy then true else S p q) → w.grownBy w' (some b) → wpList Tryd.prog ops Q rest (a.put o.dst undef) w') :
    wpList Tryd.prog ops Q (o :: rest) a w := by
  obtain ⟨D, h1, h2⟩ := hs
  exact wpList_mapUpdate_own w hg m x v t hop 77 4 lawC ht _ b n D hm h1 hn _ _ (cellK cx cy) hx hv (keyOfC wx wy) _ [] (plainElem_bool Tryd.underlying4 true) fun w' hw' hg' => hK w' ⟨_, hw', h2.put h1.isMap wx wy⟩ hg'
theorem wpList_insert_setT (w : World) {ops : Array Oper} {rest : List Oper} {o : Oper} {a : Act} {Q : Exit → Act → World → Prop}
    (hg : o.guard = none) (m x v : Operand) (t : TypeId) (hop : o.op = Op.insert t m x v) (ht : Tryd.prog.underlying t = some (.map 77 4)) (b n : Nat) (S : Int → Int → Bool)
    (hm : a.eval m = .map (some b)) (hs : SetT w b n S) (hn : n < maxLen) (cx cy : Int) (hx : a.eval x = .agg #[.int .i64 cx, .int .i64 cy]) (hv : a.eval v = .bool true) (wx : isI64 cx) (wy : isI64 cy)
    (hK : ∀ w', SetT w' b (n + 1) (fun p q => if p = cx ∧ q = cy then true else S p q) → w.grownBy w' (some b) → wpList Tryd.prog ops Q rest (a.put o.dst undef) w') :
    wpList Tryd.prog ops Q (o :: rest) a w := by
  obtain ⟨D, h1, h2⟩ := hs
  refine wpList_plain hg fun K' hK' => ?_
  obtain ⟨w', hrun, r1, r2⟩ := h1.update lawC ht hn (keyOfC wx wy) (plainElem_bool Tryd.underlying4 true)
  unfold Oper.wp
  simp [execOp, hop, hm, hx, hv, hrun, Result.andThen]
  exact hK' _ _ (hK w' ⟨_, r1, h2.put h1.isMap wx wy⟩ r2)
theorem SetT.setCof {w w' : World} {b n : Nat} {S : Int → Int → Bool} (h : SetC w b n S) (hb : w'.heap[b]? = w.heap[b]?) : SetC w' b n S := by
  obtain ⟨D, ⟨es, clock, hh, F, hs, hD⟩, h2⟩ := h
  exact ⟨D, ⟨es, clock, hb.trans hh, F, hs, hD⟩, h2⟩
theorem SetT.of_block2 {w w' : World} {b n : Nat} {S : Int → Int → Bool} (h : SetT w b n S) (hb : w'.heap[b]? = w.heap[b]?) : SetT w' b n S := by
  obtain ⟨D, ⟨es, clock, hh, F, hs, hD⟩, h2⟩ := h
  exact ⟨D, ⟨es, clock, hb.trans hh, F, hs, hD⟩, h2⟩
theorem SetT.notRun {w : World} {b n : Nat} {S : Int → Int → Bool} (h : SetT w b n S) {c : Array Value} {t : TypeId} {f : Nat × Nat} (e : w.heap[b]? = some (.cells c t f)) : False := by
  obtain ⟨D, ⟨es, clock, hh, -⟩, -⟩ := h
  rw [hh] at e
  cases e
end Go.Proofs.YtnbdnnbeiohmgaaDoor
