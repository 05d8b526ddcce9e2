/- the picture of grid.Draw: rows of bytes in memory. -/
import Derived.Test.YtnbdnnbeiohmgaaGsBack
import Derived.Lib.ConvBytes
namespace Go.Proofs.Ytnbdnnbeiohmgaa
open Go.RowKit Go.Maps Go.Shelf Go.Lib

theorem Xt.setCell {F : Nat → Prop} {w w1 : World} (h : Xt F w w1) (b x : Nat) (v : Value) (hF : F b ∨ w.heap.size ≤ b) : Xt F w (w1.setCell ⟨b, x, none⟩ v) :=
  ⟨h.os, h.tape, h.output, by simpa [World.setCell] using h.size, fun k hk hn => (Below.heap_setCell _ _ _ _ (fun e => by
    have e : k = b := e
    subst e
    exact hF.elim hn (fun h => by omega))).trans (h.block k hk hn)⟩
theorem shape_setCell (w : World) (a : Addr) (v : Value) (b : Nat) : (w.setCell a v).shape? b = w.shape? b := by
  simp only [World.setCell, World.shape?, Array.getElem?_modify]
  by_cases hb : a.block = b
  · rw [if_pos hb]
    cases w.heap[b]? with
    | none => rfl
    | some o => cases o <;> simp <;> split <;> simp
  · rw [if_neg hb]
/-- a picture: row, column -/
abbrev Pict := Nat → Nat → UInt8
def updP (P : Pict) (y x : Nat) (v : UInt8) : Pict := fun p q => if p = y ∧ q = x then v else P p q
def landP (P : Pict) (c : Int × Int) : Pict := updP P c.2.toNat c.1.toNat 94
def markP (P : Pict) (c : Int × Int) : Pict := updP P c.2.toNat c.1.toNat (if P c.2.toNat c.1.toNat = 94 then 64 else 35)
def pictL (ld r : List (Int × Int)) : Pict := r.foldl markP (ld.foldl landP fun _ _ => 46)
def lineL (P : Pict) (W y : Nat) : List UInt8 := (List.range W).map (P y)
def drawL (W H : Nat) (ld r : List (Int × Int)) : List UInt8 := (downs H H).flatMap fun y => lineL (pictL ld r) W y ++ [10]
theorem repeat_one (b : UInt8) : ∀ n, Lib.repeatL [b] n = List.replicate n b
  | 0 => rfl
  | n + 1 => by rw [Lib.repeatL, repeat_one b n]; rfl

theorem cell_ne {w : World} {v : Value} {b x b' x' : Nat} (h : b ≠ b' ∨ x ≠ x') : (w.setCell ⟨b, x, none⟩ v).cell? ⟨b', x', none⟩ = w.cell? ⟨b', x', none⟩ :=
  World.cell?_setCell_other _ _ _ _ (fun e => by injection e with e1 e2; omega)
/-- the first k rows of a picture lie in memory -/
structure PicM (w : World) (Z R H W : Nat) (rv : Nat → Value) (k : Nat) (q c : Nat → Nat) (P : Pict) : Prop where
  row : ∀ i, i < H → w.cell? ⟨R, i, none⟩ = some (rv i)
  rfz : ∀ i, i < H → w.frozen? ⟨R, i, none⟩ = false
  val : ∀ i, i < k → rv i = .slice (some ⟨q i, 0, none⟩) W (c i)
  lt : ∀ i, i < k → R + 1 < q i ∧ q i < Z
  Rlt : R + 1 < Z
  inj : ∀ i j, i < k → j < k → q i = q j → i = j
  cell : ∀ i x, i < k → x < W → w.cell? ⟨q i, x, none⟩ = some (.int .u8 ((P i x).toNat : Int))
  fz : ∀ i x, i < k → x < W → w.frozen? ⟨q i, x, none⟩ = false
  typ : ∀ i, i < k → ∃ n, w.shape? (q i) = some (5, n)
section
variable {w w' : World} {Z R H W k : Nat} {rv : Nat → Value} {q c : Nat → Nat} {P : Pict}
theorem PicM.of (h : PicM w Z R H W rv k q c P) (hk : ∀ j, R ≤ j → j < Z → w'.heap[j]? = w.heap[j]?) : PicM w' Z R H W rv k q c P where
  row i hi := (World.cell?_of_block (a := ⟨R, i, none⟩) (hk R (Nat.le_refl _) (by have := h.Rlt; omega))).trans (h.row i hi)
  rfz i hi := (World.frozen?_of_block (a := ⟨R, i, none⟩) (hk R (Nat.le_refl _) (by have := h.Rlt; omega))).trans (h.rfz i hi)
  val := h.val
  lt := h.lt
  Rlt := h.Rlt
  inj := h.inj
  cell i x hi hx := (World.cell?_of_block (a := ⟨q i, x, none⟩) (hk (q i) (by have := (h.lt i hi).1; omega) (h.lt i hi).2)).trans (h.cell i x hi hx)
  fz i x hi hx := (World.frozen?_of_block (a := ⟨q i, x, none⟩) (hk (q i) (by have := (h.lt i hi).1; omega) (h.lt i hi).2)).trans (h.fz i x hi hx)
  typ i hi := by
    obtain ⟨n, h1⟩ := h.typ i hi
    refine ⟨n, ?_⟩
    unfold World.shape? at h1 ⊢
    rw [hk (q i) (by have := (h.lt i hi).1; omega) (h.lt i hi).2]
    exact h1
theorem PicM.more {Z' : Nat} (h : PicM w Z R H W rv k q c P) (hZ : Z ≤ Z') : PicM w Z' R H W rv k q c P :=
  ⟨h.row, h.rfz, h.val, fun i hi => ⟨(h.lt i hi).1, Nat.lt_of_lt_of_le (h.lt i hi).2 hZ⟩, Nat.lt_of_lt_of_le h.Rlt hZ, h.inj, h.cell, h.fz, h.typ⟩
theorem PicM.set (h : PicM w Z R H W rv k q c P) {y x : Nat} (hy : y < k) (hx : x < W) (v : UInt8) : PicM (w.setCell ⟨q y, x, none⟩ (.int .u8 (v.toNat : Int))) Z R H W rv k q c (updP P y x v) where
  row i hi := by
    rw [cell_ne (.inl (by have := (h.lt y hy).1; omega))]
    exact h.row i hi
  rfz i hi := by rw [World.frozen?_setCell]; exact h.rfz i hi
  val := h.val
  lt := h.lt
  Rlt := h.Rlt
  inj := h.inj
  cell i z hi hz := by
    by_cases e : i = y ∧ z = x
    · obtain ⟨rfl, rfl⟩ := e
      rw [World.cell?_setCell_same _ _ _ (h.cell i z hi hz)]
      simp [updP]
    · have hne : q y ≠ q i ∨ x ≠ z := by
        by_cases e1 : q y = q i
        · right
          intro e2
          exact e ⟨h.inj i y hi hy e1.symm, e2.symm⟩
        · exact .inl e1
      rw [cell_ne hne, h.cell i z hi hz]
      simp only [updP]
      rw [if_neg e]
  fz i z hi hz := by rw [World.frozen?_setCell]; exact h.fz i z hi hz
  typ i hi := by
    obtain ⟨n, h1⟩ := h.typ i hi
    exact ⟨n, by rw [shape_setCell]; exact h1⟩
theorem bytes_below (w : World) (e : TypeId) (s : ByteArray) : Below w.heap.size w (bytesWorld w e s) :=
  ⟨rfl, rfl, rfl, by rw [bytesWorld_size]; omega, fun k hk => bytesWorld_at_old w e s k hk⟩
theorem bytes_unfrozen (w : World) (e : TypeId) (s : ByteArray) (j : Nat) (hj : j < s.size) : (bytesWorld w e s).frozen? ⟨w.heap.size, j, none⟩ = false := by
  have h : (bytesCells w e s).size ≥ s.size := by
    unfold bytesCells
    rw [Array.size_append, Array.size_map]
    exact Nat.le_add_right _ _
  have h2 : ¬ (bytesCells w e s).size ≤ j := by omega
  simp [World.frozen?, bytesWorld_at_new, h2]
theorem PicM.push (h : PicM w Z R H W rv k q c P) (hZ : Z ≤ w.heap.size) (hk : k < H) (cap : Nat) {b : UInt8} (hb : ∀ x, x < W → P k x = b) {w1 : World} (hw1 : Below w.heap.size w w1) :
    PicM ((bytesWorld w1 5 ⟨(List.replicate W b).toArray⟩).setCell ⟨R, k, none⟩ (.slice (some ⟨w1.heap.size, 0, none⟩) W cap)) (w1.heap.size + 1) R H W
      (fun i => if i = k then .slice (some ⟨w1.heap.size, 0, none⟩) W cap else rv i) (k + 1) (fun i => if i = k then w1.heap.size else q i) (fun i => if i = k then cap else c i) P := by
  have hs := hw1.size
  have hR := h.Rlt
  have hold : ∀ j, R ≤ j → j < Z → (bytesWorld w1 5 ⟨(List.replicate W b).toArray⟩).heap[j]? = w.heap[j]? := fun j _ hj =>
    (bytesWorld_at_old _ _ _ j (by omega)).trans (hw1.block j (by omega))
  have h2 := h.of hold
  constructor
  · intro i hi
    by_cases e : i = k
    · subst e
      rw [World.cell?_setCell_same _ _ _ (h2.row i hi), if_pos rfl]
    · rw [cell_ne (.inr (fun h => e h.symm)), if_neg e]
      exact h2.row i hi
  · intro i hi
    rw [World.frozen?_setCell]
    exact h2.rfz i hi
  · intro i hi
    by_cases e : i = k
    · simp [e]
    · rw [if_neg e, if_neg e, if_neg e]
      exact h.val i (by omega)
  · intro i hi
    by_cases e : i = k
    · rw [if_pos e]; omega
    · rw [if_neg e]
      have := h.lt i (by omega)
      omega
  · omega
  · intro i j hi hj e
    by_cases ei : i = k
    · by_cases ej : j = k
      · omega
      · rw [if_pos ei, if_neg ej] at e
        have := h.lt j (by omega)
        omega
    · by_cases ej : j = k
      · rw [if_neg ei, if_pos ej] at e
        have := h.lt i (by omega)
        omega
      · rw [if_neg ei, if_neg ej] at e
        exact h.inj i j (by omega) (by omega) e
  · intro i x hi hx
    by_cases e : i = k
    · subst e
      rw [if_pos rfl, cell_ne (.inl (by omega)), bytesWorld_cell _ _ _ _ (by simpa [ByteArray.size] using hx), hb x hx]
      simp [List.getD, hx]
    · have := h.lt i (by omega)
      rw [if_neg e, cell_ne (.inl (by omega))]
      exact h2.cell i x (by omega) hx
  · intro i x hi hx
    rw [World.frozen?_setCell]
    by_cases e : i = k
    · rw [if_pos e]
      exact bytes_unfrozen _ _ _ _ (by simpa [ByteArray.size] using hx)
    · rw [if_neg e]
      exact h2.fz i x (by omega) hx
  · intro i hi
    by_cases e : i = k
    · rw [if_pos e, shape_setCell]
      exact ⟨(bytesCells w1 5 ⟨(List.replicate W b).toArray⟩).size, by simp only [World.shape?, bytesWorld_at_new]⟩
    · rw [if_neg e, shape_setCell]
      exact h2.typ i (by omega)
theorem KpR.drew {n : Nat} {A B : World} (h : KpR n A B) : KpR n A B.drew := ⟨h.1.drew, h.2⟩
theorem PicM.kp (h : PicM w Z R H W rv k q c P) {n₀ y x : Nat} (hy : y < k) (v : Value) (hn : n₀ ≤ R) : KpR n₀ w (w.setCell ⟨q y, x, none⟩ v) := by
  have hlt := (h.lt y hy).1
  obtain ⟨n, hs⟩ := h.typ y hy
  have hb : Below n₀ w (w.setCell ⟨q y, x, none⟩ v) := (Below.refl _ _).setCell (p := ⟨q y, x, none⟩) (by show n₀ ≤ q y; omega) v
  have hk : ∀ (t : TypeId) (k : Nat) (c : Array Value) (f : Nat × Nat), t ≠ 5 → w.heap[k]? = some (.cells c t f) → (w.setCell ⟨q y, x, none⟩ v).heap[k]? = some (.cells c t f) := by
    intro t k c f ht e
    refine (Below.heap_setCell _ _ _ _ (fun e2 => ?_)).trans e
    have e2 : k = q y := e2
    subst e2
    unfold World.shape? at hs
    rw [e] at hs
    simp at hs
    exact ht hs.1
  exact ⟨hb, fun k c f => hk _ k c f (by decide)⟩
end
theorem Bld.own {β : Type} {B b : Nat} {f : β → List Value} {Z : Nat} : OwnFrom Z (fun (x : β) W => Bld B b (f x) W) := fun x X Y row h hg hr => by
  have key : ∀ p, Lib.BuilderAtF 152 5 B b p (f x) X → Lib.BuilderAtF 152 5 B b p (f x) Y := by
    rintro p ⟨h1, v, h2, h3, h4⟩
    have hne : ∀ k c t fz, X.heap[k]? = some (.cells c t fz) → some k ≠ row := fun k c t fz hk e => by
      obtain ⟨o, ho, hc⟩ := (hr k e.symm).2
      rw [hk] at ho
      cases ho
      cases hc
    refine ⟨h1, v, (hg.block b (Array.getElem?_eq_some_iff.1 h2).1 (hne b _ _ _ h2)).trans h2, h3.kept hg ?_, h4⟩
    rcases h3.2 with ⟨rfl, -⟩ | ⟨g, cap, cur, fz, rfl, -, hgk, -⟩
    · exact .inl rfl
    · exact .inr (fun e => hne g _ _ _ hgk e)
  exact h.imp (key _) (key _)
end Go.Proofs.Ytnbdnnbeiohmgaa
