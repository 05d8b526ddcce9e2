/- share: vectors: list, vectored, Known, When, Arrived, Join. -/
import Derived.Test.YtngigogaiheckaaShSay
import Derived.Shelf.SlicesE.Clone
namespace Go.Proofs.Ytngigogaiheckaa
open Go.RowKit Go.Lib Go.Maps

def encI (n : Int) : List Value := [.int .i64 n]
theorem encI_len (n : Int) : (encI n).length = 1 := rfl
/-- a vector as a list -/
def vecI (f : Nat → Nat) : List Int := [(f 0 : Int), (f 1 : Int), (f 2 : Int), (f 3 : Int), (f 4 : Int), (f 5 : Int), (f 6 : Int), (f 7 : Int)]
theorem vecI_flat (f : Nat → Nat) : flatE encI (vecI f) = encV f := rfl
theorem vecI_len (f : Nat → Nat) : (vecI f).length = 8 := rfl
/-- a row of the call's own stays where blocks among F turn that lie below it -/
theorem ownsExt {F : Nat → Prop} {w w' : World} {base : Nat} {e : TypeId} {z n : Nat} {v : Value} {xs : List Value} (h : w.ownsRow base e z v n xs) (hE : Ext F w w') (hF : ∀ b, F b → b < base) : w'.ownsRow base e z v n xs := by
  refine ⟨h.1, ?_⟩
  rcases h.2 with h1 | ⟨g, cap, cur, rfl, hb, hh, hr2⟩
  · exact .inl h1
  · exact .inr ⟨g, cap, cur, rfl, hb, (hE.block g (Array.getElem?_eq_some_iff.1 hh).1 (fun hf => by have := hF g hf; omega)).trans hh, hr2⟩
theorem infoI : (Try.prog.info? 3).map (fun i => (i.zero, i.size, i.bytes)) = some (some (.int .i64 0), 1, 8) := by kernel_rfl
set_option maxRecDepth 100000 in
theorem list_sh (f : Nat → Nat) (w : World) : Calls Try.prog 29 #[valV f] w fun e w' => ∃ v, e = .returned v ∧ w'.ownsRow w.heap.size 3 1 v 8 (encV f) ∧ Below w.heap.size w w' := by
  obtain ⟨i0, hi, hz0, hz1, hz2⟩ := info_parts infoI
  have hcl : ∀ W : World, W.heap[w.heap.size]? = some (.cells (arrV f) 62 (0, 0)) → Below w.heap.size w W → Calls Try.prog 47 #[.slice (some ⟨w.heap.size, 0, none⟩) 8 8] W fun e w' => ∃ v, e = .returned v ∧ w'.ownsRow w.heap.size 3 1 v 8 (encV f) ∧ Below w.heap.size w w' := fun W hW hb => by
    have hlt : w.heap.size < W.heap.size := (Array.getElem?_eq_some_iff.1 hW).1
    refine (AnyE.slices_Clone Try.cloneInt i0 (.int .i64 0) 1 8 hi hz0 hz1 hz2 rfl (by omega) Try.sizeOf3 w.heap.size 0 8 8 (encV f) W (by simp [encV]) (by unfold maxLen; omega) (by omega) (fun j u hu => ?_) (fun u hu => ?_)).mono ?_
    · simp only [World.cell?, hW, Nat.zero_add]
      simpa [arrV, encV] using hu
    · simp [encV] at hu
      rcases hu with rfl | rfl | rfl | rfl | rfl | rfl | rfl | rfl <;> rfl
    · rintro e w' ⟨v', rfl, h5, -, h6⟩
      exact ⟨v', rfl, ownsMono h5 (Nat.le_of_lt hlt), hb.trans (h6.mono (Nat.le_of_lt hlt))⟩
  have HC := Lib.hid hcl
  unfold valV
  clear hcl hi hz0 hz1 hz2
  go_enter Try.func29, Try.ntmps29
  go_wp2_with fail
  refine (HC.out _ (heap_alloc_new w _) ((Below.refl _ _).alloc (Nat.le_refl _) _)).mono ?_
  rintro e w1 ⟨v, rfl, h1, h2⟩
  go_wp2_with fail
  go_ret
  exact ⟨_, rfl, h1, h2⟩
theorem vec1_sh (n : Int) (w : World) : Calls Try.prog 49 #[.int .i64 n] w fun e w' => e = .returned (.bool (!inB n 0 1000)) ∧ w' = w := by
  have hw := fun W => within_sh n 0 1000 W
  go_enter Try.func49, Try.ntmps49
  go_wp2_with fail
  refine (hw _).mono ?_
  rintro e w1 ⟨rfl, rfl⟩
  go_wp2_with fail
  go_ret
  exact ⟨rfl, rfl⟩
/-- is a list a vector? -/
def vecOK (l : List Int) : Bool := decide (l.length = 8) && l.all fun n => inB n 0 1000
def vecN (l : List Int) : Nat → Nat := fun c => (l.getD c 0).toNat
theorem vecN_eq {l : List Int} (h : vecOK l = true) : ∃ a b c d e f g i : Nat, l = [(a : Int), (b : Int), (c : Int), (d : Int), (e : Int), (f : Int), (g : Int), (i : Int)] := by
  simp only [vecOK, Bool.and_eq_true, decide_eq_true_eq, List.all_eq_true, inB] at h
  obtain ⟨h1, h2⟩ := h
  have hn : ∀ n, n ∈ l → ∃ k : Nat, n = k := fun n hn => ⟨n.toNat, by have := h2 n hn; omega⟩
  rcases l with - | ⟨a, - | ⟨b, - | ⟨c, - | ⟨d, - | ⟨e, - | ⟨f, - | ⟨g, - | ⟨i, - | ⟨j, l⟩⟩⟩⟩⟩⟩⟩⟩⟩ <;> simp at h1
  obtain ⟨a, rfl⟩ := hn a (by simp)
  obtain ⟨b, rfl⟩ := hn b (by simp)
  obtain ⟨c, rfl⟩ := hn c (by simp)
  obtain ⟨d, rfl⟩ := hn d (by simp)
  obtain ⟨e, rfl⟩ := hn e (by simp)
  obtain ⟨f, rfl⟩ := hn f (by simp)
  obtain ⟨g, rfl⟩ := hn g (by simp)
  obtain ⟨i, rfl⟩ := hn i (by simp)
  exact ⟨a, b, c, d, e, f, g, i, rfl⟩
theorem vecN_of {l : List Int} (h : vecOK l = true) : l = vecI (vecN l) := by
  obtain ⟨a, b, c, d, e, f, g, i, rfl⟩ := vecN_eq h
  rfl
theorem vecN_vecI (f : Nat → Nat) (c : Nat) (hc : c < 8) : vecN (vecI f) c = f c := by
  have : c = 0 ∨ c = 1 ∨ c = 2 ∨ c = 3 ∨ c = 4 ∨ c = 5 ∨ c = 6 ∨ c = 7 := by omega
  rcases this with rfl | rfl | rfl | rfl | rfl | rfl | rfl | rfl <;> rfl
theorem vecOK_vecI {f : Nat → Nat} (h : ∀ c, c < 8 → f c ≤ 1000) : vecOK (vecI f) = true := by
  have h0 := h 0 (by omega)
  have h1 := h 1 (by omega)
  have h2 := h 2 (by omega)
  have h3 := h 3 (by omega)
  have h4 := h 4 (by omega)
  have h5 := h 5 (by omega)
  have h6 := h 6 (by omega)
  have h7 := h 7 (by omega)
  simp [vecOK, vecI, inB]
  omega
/-- ContainsFunc of what is no number of a vector -/
theorem hasInt_sh (v : Value) (l : List Int) (w : World) (h : Lst 1 encI w v l) :
    Calls Try.prog 48 #[v, .func (.func 49) #[] #[]] w fun e w' => e = .returned (.bool (!l.all fun n => inB n 0 1000)) ∧ Below w.heap.size w w' := by
  obtain ⟨A, c, rfl, h1, h2, h3⟩ := h
  have e1 : (l.all fun n => inB n 0 1000) = !(l.any fun n => !inB n 0 1000) := by rw [List.not_any_eq_all_not]; simp
  rw [e1, Bool.not_not]
  rcases Nat.eq_zero_or_pos l.length with h0 | h0
  · have hl : l = [] := List.eq_nil_of_length_eq_zero h0
    subst hl
    refine (AnyE.slices_ContainsFunc_empty Try.hasInt A c _ w).mono ?_
    rintro e w' ⟨rfl, rfl⟩
    exact ⟨rfl, Below.refl _ _⟩
  · obtain ⟨b, off, rfl, hb, hc⟩ := h3 h0
    have hcon := AnyE.slices_ContainsFunc Try.hasInt (fun n : Int => .int .i64 n) (fun n => !inB n 0 1000) 49 #[] (enters_of Try.func49 (by kernel_rfl) rfl) b off l.length c l w
      (fun W x _ => (vec1_sh x W).mono fun e w' ⟨h1, h2⟩ => ⟨h1, 0, by rw [h2]; rfl⟩)
      (Nat.le_refl _) (by unfold maxLen at h2; omega) (fun j hj => by
        have e : l[j]! = l[j] := by simp [hj]
        have := hc j 0 l[j] (.int .i64 l[j]) (List.getElem?_eq_getElem hj) rfl
        rw [e]
        simpa using this)
    refine hcon.mono ?_
    rintro e w' ⟨rfl, q, rfl⟩
    rw [List.take_length]
    exact ⟨rfl, belowDrewN (Below.refl _ _) q⟩
theorem block8 {w : World} {Y : Nat} {e : TypeId} {z0 z1 z2 z3 z4 z5 z6 z7 : Value} (h : w.heap[Y]? = some (.cells #[z0, z1, z2, z3, z4, z5, z6, z7] e (0, 0))) (a0 a1 a2 a3 a4 a5 a6 a7 : Value) : ((((((((w.setCell ⟨Y, 0, none⟩ a0).setCell ⟨Y, 1, none⟩ a1).setCell ⟨Y, 2, none⟩ a2).setCell ⟨Y, 3, none⟩ a3).setCell ⟨Y, 4, none⟩ a4).setCell ⟨Y, 5, none⟩ a5).setCell ⟨Y, 6, none⟩ a6).setCell ⟨Y, 7, none⟩ a7).heap[Y]? = some (.cells #[a0, a1, a2, a3, a4, a5, a6, a7] e (0, 0)) := by
  simp [World.setCell, Array.getElem?_modify, h]
theorem below8 {B : Nat} {w0 w : World} {Y : Nat} (hb : Below B w0 w) (h : B ≤ Y) (a0 a1 a2 a3 a4 a5 a6 a7 : Value) : Below B w0 ((((((((w.setCell ⟨Y, 0, none⟩ a0).setCell ⟨Y, 1, none⟩ a1).setCell ⟨Y, 2, none⟩ a2).setCell ⟨Y, 3, none⟩ a3).setCell ⟨Y, 4, none⟩ a4).setCell ⟨Y, 5, none⟩ a5).setCell ⟨Y, 6, none⟩ a6).setCell ⟨Y, 7, none⟩ a7) :=
  (((((((hb.setCell h _).setCell h _).setCell h _).setCell h _).setCell h _).setCell h _).setCell h _).setCell h _
set_option maxRecDepth 100000 in
set_option maxHeartbeats 1000000 in
theorem vectored_bad (v : Value) (l : List Int) (w : World) (h : Lst 1 encI w v l) (hbad : vecOK l = false) : Calls Try.prog 30 #[v] w fun e w' => e = .returned (.tuple #[valV (fun _ => 0), .bool false]) ∧ Below w.heap.size w w' := by
  obtain ⟨A, c, rfl, h1, h2, h3⟩ := id h
  have hci : ∀ W, Below w.heap.size w W → Calls Try.prog 48 #[.slice A l.length c, .func (.func 49) #[] #[]] W fun e w' => e = .returned (.bool (!l.all fun n => inB n 0 1000)) ∧ Below w.heap.size w w' ∧ Below W.heap.size W w' := fun W hW =>
    (hasInt_sh _ l W (h.below hW)).mono fun e w' ⟨h1, h2⟩ => ⟨h1, hW.trans (h2.mono hW.size), h2⟩
  have HC := Lib.hid hci
  clear hci h h3 h1
  go_enter Try.func30, Try.ntmps30
  go_wp2_with fail
  · rename_i h8
    obtain ⟨W1, hW1⟩ : ∃ W, w.alloc (.cells zV 62) = W := ⟨_, rfl⟩
    have hr : W1.heap[w.heap.size]? = some (.cells zV 62 (0, 0)) := by
      rw [← hW1]
      exact heap_alloc_new w _
    have hb1 : Below w.heap.size w W1 := by
      rw [← hW1]
      exact (Below.refl _ _).alloc (Nat.le_refl _) _
    unfold zV at hW1 hr
    rw [hW1]
    clear hW1
    obtain ⟨B, hB⟩ : ∃ B, w.heap.size = B := ⟨_, rfl⟩
    rw [hB] at hr hb1 HC ⊢
    have hlB : B < W1.heap.size := (Array.getElem?_eq_some_iff.1 hr).1
    refine (HC.out _ hb1).mono ?_
    rintro e w2 ⟨rfl, hb2, hb3⟩
    have hr2 := (hb3.block B hlB).trans hr
    have z0 : w2.cell? ⟨B, 0, none⟩ = some (.int .i64 0) := by simp [World.cell?, hr2]
    have z1 : w2.cell? ⟨B, 1, none⟩ = some (.int .i64 0) := by simp [World.cell?, hr2]
    have z2 : w2.cell? ⟨B, 2, none⟩ = some (.int .i64 0) := by simp [World.cell?, hr2]
    have z3 : w2.cell? ⟨B, 3, none⟩ = some (.int .i64 0) := by simp [World.cell?, hr2]
    have z4 : w2.cell? ⟨B, 4, none⟩ = some (.int .i64 0) := by simp [World.cell?, hr2]
    have z5 : w2.cell? ⟨B, 5, none⟩ = some (.int .i64 0) := by simp [World.cell?, hr2]
    have z6 : w2.cell? ⟨B, 6, none⟩ = some (.int .i64 0) := by simp [World.cell?, hr2]
    have z7 : w2.cell? ⟨B, 7, none⟩ = some (.int .i64 0) := by simp [World.cell?, hr2]
    have f0 := zfro hr2 0
    have f1 := zfro hr2 1
    have f2 := zfro hr2 2
    have f3 := zfro hr2 3
    have f4 := zfro hr2 4
    have f5 := zfro hr2 5
    have f6 := zfro hr2 6
    have f7 := zfro hr2 7
    have hall : (l.all fun n => inB n 0 1000) = false := by
      simp only [vecOK] at hbad
      rcases Bool.and_eq_false_iff.1 hbad with h | h
      · simp only [decide_eq_false_iff_not] at h
        exfalso
        revert h8
        simp
        omega
      · exact h
    rw [hall]
    go_wp2_with fail
    obtain ⟨wz, hwz⟩ : ∃ W, ((((((((w2.setCell ⟨B, 0, none⟩ (.int .i64 0)).setCell ⟨B, 1, none⟩ (.int .i64 0)).setCell ⟨B, 2, none⟩ (.int .i64 0)).setCell ⟨B, 3, none⟩ (.int .i64 0)).setCell ⟨B, 4, none⟩ (.int .i64 0)).setCell ⟨B, 5, none⟩ (.int .i64 0)).setCell ⟨B, 6, none⟩ (.int .i64 0)).setCell ⟨B, 7, none⟩ (.int .i64 0)) = W := ⟨_, rfl⟩
    have hrZ : wz.heap[B]? = some (.cells #[.int .i64 0, .int .i64 0, .int .i64 0, .int .i64 0, .int .i64 0, .int .i64 0, .int .i64 0, .int .i64 0] 62 (0, 0)) := by
      rw [← hwz]
      exact block8 hr2 _ _ _ _ _ _ _ _
    have r0 : wz.cell? ⟨B, 0, none⟩ = some (.int .i64 0) := by simp [World.cell?, hrZ]
    have r1 : wz.cell? ⟨B, 1, none⟩ = some (.int .i64 0) := by simp [World.cell?, hrZ]
    have r2 : wz.cell? ⟨B, 2, none⟩ = some (.int .i64 0) := by simp [World.cell?, hrZ]
    have r3 : wz.cell? ⟨B, 3, none⟩ = some (.int .i64 0) := by simp [World.cell?, hrZ]
    have r4 : wz.cell? ⟨B, 4, none⟩ = some (.int .i64 0) := by simp [World.cell?, hrZ]
    have r5 : wz.cell? ⟨B, 5, none⟩ = some (.int .i64 0) := by simp [World.cell?, hrZ]
    have r6 : wz.cell? ⟨B, 6, none⟩ = some (.int .i64 0) := by simp [World.cell?, hrZ]
    have r7 : wz.cell? ⟨B, 7, none⟩ = some (.int .i64 0) := by simp [World.cell?, hrZ]
    have hbz : Below B w wz := by
      rw [← hwz]
      exact below8 hb2 (Nat.le_refl _) _ _ _ _ _ _ _ _
    rw [hwz]
    exact bodyPost_ret (v := .tuple #[.agg #[.int .i64 0, .int .i64 0, .int .i64 0, .int .i64 0, .int .i64 0, .int .i64 0, .int .i64 0, .int .i64 0], .bool false]) (by simp [results, Try.results30, go_sem, r0, r1, r2, r3, r4, r5, r6, r7]) rfl ⟨rfl, by rw [hB]; exact hbz⟩
  · refine bodyPost_ret (v := .tuple #[.agg #[.int .i64 0, .int .i64 0, .int .i64 0, .int .i64 0, .int .i64 0, .int .i64 0, .int .i64 0, .int .i64 0], .bool false]) (by simp [results, Try.results30, go_sem]) rfl ⟨rfl, (Below.refl _ _).alloc (Nat.le_refl _) _⟩
set_option maxRecDepth 100000 in
theorem arrAt (b off c : Nat) (w : World) : (Instr.arrayAt 62 (.slice (some ⟨b, off, none⟩) 8 c)).run Try.prog w = .ok (.pointer (some ⟨b, off, none⟩)) w := by
  simp [Instr.arrayAt, go_sem]
set_option maxRecDepth 100000 in
set_option maxHeartbeats 1000000 in
theorem vectored_ok (v : Value) (l : List Int) (w : World) (h : Lst 1 encI w v l) (hok : vecOK l = true) : Calls Try.prog 30 #[v] w fun e w' => e = .returned (.tuple #[valV (vecN l), .bool true]) ∧ Below w.heap.size w w' := by
  obtain ⟨A, c, rfl, h1, h2, h3⟩ := id h
  have h8 : l.length = 8 := by
    simp only [vecOK, Bool.and_eq_true, decide_eq_true_eq] at hok
    exact hok.1
  have hall : (l.all fun n => inB n 0 1000) = true := by
    simp only [vecOK, Bool.and_eq_true, decide_eq_true_eq] at hok
    exact hok.2
  have hci : ∀ W, Below w.heap.size w W → Calls Try.prog 48 #[.slice A l.length c, .func (.func 49) #[] #[]] W fun e w' => e = .returned (.bool false) ∧ Below w.heap.size w w' ∧ Below W.heap.size W w' := fun W hW =>
    (hasInt_sh _ l W (h.below hW)).mono fun e w' ⟨h1, h2⟩ => ⟨by rw [h1, hall]; rfl, hW.trans (h2.mono hW.size), h2⟩
  obtain ⟨b, off, rfl, hbl, hcc⟩ := h3 (by omega)
  have hl := vecN_of hok
  obtain ⟨f, hf⟩ : ∃ f, vecN l = f := ⟨_, rfl⟩
  rw [hf] at hl ⊢
  have c0 : w.cell? ⟨b, off + 0, none⟩ = some (.int .i64 (f 0)) := by
    have := hcc 0 0 (f 0) (.int .i64 (f 0)) (by rw [hl]; rfl) rfl
    simpa using this
  have c1 : w.cell? ⟨b, off + 1, none⟩ = some (.int .i64 (f 1)) := by
    have := hcc 1 0 (f 1) (.int .i64 (f 1)) (by rw [hl]; rfl) rfl
    simpa using this
  have c2 : w.cell? ⟨b, off + 2, none⟩ = some (.int .i64 (f 2)) := by
    have := hcc 2 0 (f 2) (.int .i64 (f 2)) (by rw [hl]; rfl) rfl
    simpa using this
  have c3 : w.cell? ⟨b, off + 3, none⟩ = some (.int .i64 (f 3)) := by
    have := hcc 3 0 (f 3) (.int .i64 (f 3)) (by rw [hl]; rfl) rfl
    simpa using this
  have c4 : w.cell? ⟨b, off + 4, none⟩ = some (.int .i64 (f 4)) := by
    have := hcc 4 0 (f 4) (.int .i64 (f 4)) (by rw [hl]; rfl) rfl
    simpa using this
  have c5 : w.cell? ⟨b, off + 5, none⟩ = some (.int .i64 (f 5)) := by
    have := hcc 5 0 (f 5) (.int .i64 (f 5)) (by rw [hl]; rfl) rfl
    simpa using this
  have c6 : w.cell? ⟨b, off + 6, none⟩ = some (.int .i64 (f 6)) := by
    have := hcc 6 0 (f 6) (.int .i64 (f 6)) (by rw [hl]; rfl) rfl
    simpa using this
  have c7 : w.cell? ⟨b, off + 7, none⟩ = some (.int .i64 (f 7)) := by
    have := hcc 7 0 (f 7) (.int .i64 (f 7)) (by rw [hl]; rfl) rfl
    simpa using this
  simp only [Nat.add_zero] at c0
  rw [h8] at hci ⊢
  have HC := Lib.hid hci
  have hat := arrAt b off c
  rw [h8] at h1
  unfold valV
  unfold maxLen at h2
  clear hci h h3 hok hall hl hf h8 hcc
  go_enter Try.func30, Try.ntmps30
  go_wp2_with fail
  obtain ⟨W1, hW1⟩ : ∃ W, w.alloc (.cells zV 62) = W := ⟨_, rfl⟩
  have hr : W1.heap[w.heap.size]? = some (.cells zV 62 (0, 0)) := by
    rw [← hW1]
    exact heap_alloc_new w _
  have hb1 : Below w.heap.size w W1 := by
    rw [← hW1]
    exact (Below.refl _ _).alloc (Nat.le_refl _) _
  unfold zV at hW1 hr
  rw [hW1]
  clear hW1
  obtain ⟨B, hB⟩ : ∃ B, w.heap.size = B := ⟨_, rfl⟩
  rw [hB] at hr hb1 HC hbl ⊢
  have hlB : B < W1.heap.size := (Array.getElem?_eq_some_iff.1 hr).1
  refine (HC.out _ hb1).mono ?_
  rintro e w2 ⟨rfl, hb2, hb3⟩
  have hr2 := (hb3.block B hlB).trans hr
  have c0 := (hb2.cell (p := ⟨b, off, none⟩) hbl).trans c0
  have c1 := (hb2.cell (p := ⟨b, off + 1, none⟩) hbl).trans c1
  have c2 := (hb2.cell (p := ⟨b, off + 2, none⟩) hbl).trans c2
  have c3 := (hb2.cell (p := ⟨b, off + 3, none⟩) hbl).trans c3
  have c4 := (hb2.cell (p := ⟨b, off + 4, none⟩) hbl).trans c4
  have c5 := (hb2.cell (p := ⟨b, off + 5, none⟩) hbl).trans c5
  have c6 := (hb2.cell (p := ⟨b, off + 6, none⟩) hbl).trans c6
  have c7 := (hb2.cell (p := ⟨b, off + 7, none⟩) hbl).trans c7
  have z0 : w2.cell? ⟨B, 0, none⟩ = some (.int .i64 0) := by simp [World.cell?, hr2]
  have z1 : w2.cell? ⟨B, 1, none⟩ = some (.int .i64 0) := by simp [World.cell?, hr2]
  have z2 : w2.cell? ⟨B, 2, none⟩ = some (.int .i64 0) := by simp [World.cell?, hr2]
  have z3 : w2.cell? ⟨B, 3, none⟩ = some (.int .i64 0) := by simp [World.cell?, hr2]
  have z4 : w2.cell? ⟨B, 4, none⟩ = some (.int .i64 0) := by simp [World.cell?, hr2]
  have z5 : w2.cell? ⟨B, 5, none⟩ = some (.int .i64 0) := by simp [World.cell?, hr2]
  have z6 : w2.cell? ⟨B, 6, none⟩ = some (.int .i64 0) := by simp [World.cell?, hr2]
  have z7 : w2.cell? ⟨B, 7, none⟩ = some (.int .i64 0) := by simp [World.cell?, hr2]
  have f0 := zfro hr2 0
  have f1 := zfro hr2 1
  have f2 := zfro hr2 2
  have f3 := zfro hr2 3
  have f4 := zfro hr2 4
  have f5 := zfro hr2 5
  have f6 := zfro hr2 6
  have f7 := zfro hr2 7
  go_wp2_with fail
  obtain ⟨wz, hwz⟩ : ∃ W, ((((((((w2.setCell ⟨B, 0, none⟩ (.int .i64 (f 0))).setCell ⟨B, 1, none⟩ (.int .i64 (f 1))).setCell ⟨B, 2, none⟩ (.int .i64 (f 2))).setCell ⟨B, 3, none⟩ (.int .i64 (f 3))).setCell ⟨B, 4, none⟩ (.int .i64 (f 4))).setCell ⟨B, 5, none⟩ (.int .i64 (f 5))).setCell ⟨B, 6, none⟩ (.int .i64 (f 6))).setCell ⟨B, 7, none⟩ (.int .i64 (f 7))) = W := ⟨_, rfl⟩
  have hrZ : wz.heap[B]? = some (.cells #[.int .i64 (f 0), .int .i64 (f 1), .int .i64 (f 2), .int .i64 (f 3), .int .i64 (f 4), .int .i64 (f 5), .int .i64 (f 6), .int .i64 (f 7)] 62 (0, 0)) := by
    rw [← hwz]
    exact block8 hr2 _ _ _ _ _ _ _ _
  have r0 : wz.cell? ⟨B, 0, none⟩ = some (.int .i64 (f 0)) := by simp [World.cell?, hrZ]
  have r1 : wz.cell? ⟨B, 1, none⟩ = some (.int .i64 (f 1)) := by simp [World.cell?, hrZ]
  have r2 : wz.cell? ⟨B, 2, none⟩ = some (.int .i64 (f 2)) := by simp [World.cell?, hrZ]
  have r3 : wz.cell? ⟨B, 3, none⟩ = some (.int .i64 (f 3)) := by simp [World.cell?, hrZ]
  have r4 : wz.cell? ⟨B, 4, none⟩ = some (.int .i64 (f 4)) := by simp [World.cell?, hrZ]
  have r5 : wz.cell? ⟨B, 5, none⟩ = some (.int .i64 (f 5)) := by simp [World.cell?, hrZ]
  have r6 : wz.cell? ⟨B, 6, none⟩ = some (.int .i64 (f 6)) := by simp [World.cell?, hrZ]
  have r7 : wz.cell? ⟨B, 7, none⟩ = some (.int .i64 (f 7)) := by simp [World.cell?, hrZ]
  have hbz : Below B w wz := by
    rw [← hwz]
    exact below8 hb2 (Nat.le_refl _) _ _ _ _ _ _ _ _
  rw [hwz]
  exact bodyPost_ret (v := .tuple #[.agg #[.int .i64 (f 0), .int .i64 (f 1), .int .i64 (f 2), .int .i64 (f 3), .int .i64 (f 4), .int .i64 (f 5), .int .i64 (f 6), .int .i64 (f 7)], .bool true]) (by simp [results, Try.results30, go_sem, r0, r1, r2, r3, r4, r5, r6, r7]) rfl ⟨rfl, by rw [hB]; exact hbz⟩

theorem Pic.lt {w : World} {F : Nat → Prop} {p : Nat} {cen : Int} {arr : List Sd} (h : Pic w F p cen arr) : p < w.heap.size := by
  obtain ⟨m, va, vk, h⟩ := h
  exact h.lt
set_option maxRecDepth 100000 in
theorem known_sh (w : World) {F : Nat → Prop} {p : Nat} {cen : Int} {arr : List Sd} (h : Pic w F p cen arr) (hl : arr.length ≤ 1000) :
    Calls Try.prog 11 #[.pointer (some ⟨p, 0, none⟩)] w fun e w' => ∃ v, e = .returned v ∧ w'.ownsRow w.heap.size 3 1 v 8 (encV (knF arr)) ∧ Below w.heap.size w w' := by
  obtain ⟨m, va, vk, h⟩ := h
  have his := is_sh p m w h.c1
  have hnow := now_sh w h (by omega)
  have hli := list_sh (knF arr)
  have HI := Lib.hid his
  have HN := Lib.hid hnow
  have HL := Lib.hid hli
  clear his hnow hli h
  go_enter Try.func11, Try.ntmps11
  go_wp2_with fail
  refine HI.out.mono ?_
  rintro e w1 ⟨rfl, rfl⟩
  go_wp2_with fail
  refine HN.out.mono ?_
  rintro e w1 ⟨rfl, hb1⟩
  go_wp2_with fail
  refine (HL.out _).mono ?_
  rintro e w2 ⟨v, rfl, hv, hb2⟩
  go_wp2_with fail
  go_ret
  exact ⟨v, rfl, ownsMono hv hb1.size, hb1.trans (hb2.mono hb1.size)⟩
set_option maxRecDepth 100000 in
theorem arrived_sh (w : World) {F : Nat → Prop} {p : Nat} {cen : Int} {arr : List Sd} (h : Pic w F p cen arr) :
    Calls Try.prog 23 #[.pointer (some ⟨p, 0, none⟩)] w fun e w' => e = .returned (.int .i64 arr.length) ∧ w = w' := by
  obtain ⟨m, va, vk, h⟩ := h
  obtain ⟨A, cc, rfl⟩ := rowSlice h.ra
  have his := is_sh p m w h.c1
  have c2 := h.c2
  have HI := Lib.hid his
  clear his h
  go_enter Try.func23, Try.ntmps23
  go_wp2_with fail
  refine HI.out.mono ?_
  rintro e w1 ⟨rfl, rfl⟩
  go_wp2_with fail
  go_ret
  exact ⟨rfl, rfl⟩
set_option maxRecDepth 100000 in
theorem when_sh (w : World) {F : Nat → Prop} {p : Nat} {cen : Int} {arr : List Sd} (h : Pic w F p cen arr) (i : Nat) (hi : i ≤ arr.length) (hl : arr.length ≤ 1000) :
    Calls Try.prog 24 #[.pointer (some ⟨p, 0, none⟩), .int .i64 i] w fun e w' => ∃ v, e = .returned (.tuple #[v, .int .i64 0]) ∧ w'.ownsRow w.heap.size 3 1 v 8 (encV (knF (arr.take i))) ∧ Below w.heap.size w w' := by
  obtain ⟨m, va, vk, h⟩ := h
  obtain ⟨A, cc, rfl⟩ := rowSlice h.ra
  have his := is_sh p m w h.c1
  have c2 := h.c2
  obtain ⟨g, cap, rfl, hg, hcc⟩ := h.known
  have c3 := h.c3
  have k0 := hcc i 0 hi (by omega)
  have k1 := hcc i 1 hi (by omega)
  have k2 := hcc i 2 hi (by omega)
  have k3 := hcc i 3 hi (by omega)
  have k4 := hcc i 4 hi (by omega)
  have k5 := hcc i 5 hi (by omega)
  have k6 := hcc i 6 hi (by omega)
  have k7 := hcc i 7 hi (by omega)
  simp only [Nat.add_zero] at k0
  have hli := list_sh (knF (arr.take i))
  have hwi := within_sh i 0 arr.length w
  have hin : inB i 0 arr.length = true := by simp [inB, hi]
  rw [hin] at hwi
  have hi2 : (i : Int) < (arr.length : Int) + 1 := by omega
  have hi3 : (0 : Int) ≤ i := by omega
  have HI := Lib.hid his
  have HL := Lib.hid hli
  have HW := Lib.hid hwi
  generalize knF (arr.take i) = u at *
  unfold valV at HL
  clear his hli h hcc hwi hin
  go_enter Try.func24, Try.ntmps24
  go_wp2_with fail
  refine HI.out.mono ?_
  rintro e w1 ⟨rfl, rfl⟩
  go_wp2_with fail
  refine HW.out.mono ?_
  rintro e w1 ⟨rfl, rfl⟩
  go_wp2_with fail
  refine (HL.out _).mono ?_
  rintro e w2 ⟨v, rfl, hv, hb2⟩
  go_wp2_with fail
  refine bodyPost_ret (v := .tuple #[v, .int .i64 0]) (by simp [results, Try.results24, go_sem]) rfl ⟨v, rfl, hv, hb2⟩
end Go.Proofs.Ytngigogaiheckaa
