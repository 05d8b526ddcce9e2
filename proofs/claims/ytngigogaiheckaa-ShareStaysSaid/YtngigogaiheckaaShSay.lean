/- share: New, Say, Known, Arrived. -/
import Derived.Deep.RegionWith
import Derived.Test.YtngigogaiheckaaShAdd
import Derived.Test.YtngigogaiheckaaShCheck
namespace Go.Proofs.Ytngigogaiheckaa
open Go.RowKit Go.Lib Go.Maps

theorem knF_nil : knF [] = fun _ => 0 := by
  funext c
  exact kn_nil _
set_option maxRecDepth 100000 in
theorem ix_v (v : Nat → Nat) (c : Nat) (h : c < 8) (w : World) : (Instr.index 62 (.agg (arrV v)) (.int .i64 c)).run Try.prog w = .ok (.int .i64 (v c)) w := by
  have : c = 0 ∨ c = 1 ∨ c = 2 ∨ c = 3 ∨ c = 4 ∨ c = 5 ∨ c = 6 ∨ c = 7 := by omega
  rcases this with rfl | rfl | rfl | rfl | rfl | rfl | rfl | rfl <;> rfl
theorem rowSlice {w : World} {base : Nat} {e : TypeId} {size n : Nat} {v : Value} {xs : List Value} (h : w.ownsRow base e size v n xs) : ∃ A c, v = .slice A n c := by
  rcases h.2 with ⟨rfl, rfl⟩ | ⟨g, cap, cur, rfl, _⟩
  · exact ⟨none, 0, rfl⟩
  · exact ⟨_, _, rfl⟩
def zS : Array Value := #[.int .i64 0, .int .i64 0, .string ⟨#[]⟩, .string ⟨#[]⟩, .int .i64 0, .int .i64 0, .int .i64 0]
theorem pic_new (w : World) (cen : Int) (N : Nat) (hN : w.heap.size = N) :
    Pic (((w.alloc (.map #[] 0)).alloc (.cells zV 62)).alloc (.cells #[.int .i64 cen, .map (some N), .slice none 0 0, .slice (some ⟨N + 1, 0, none⟩) 1 1] 76)) (Gr (fun _ => False) w (((w.alloc (.map #[] 0)).alloc (.cells zV 62)).alloc (.cells #[.int .i64 cen, .map (some N), .slice none 0 0, .slice (some ⟨N + 1, 0, none⟩) 1 1] 76))) (N + 1 + 1) cen [] := by
  subst hN
  have hm := There.made w
  have h1 := World.ownsRow_lit (base := 0) (e := 62) (size := 8) (w.alloc (.map #[] 0)) zV 1 (Nat.zero_le _) (by unfold maxLen; omega) rfl
  have hk : zV.toList = flatE encV (knowns []) := by
    unfold knowns
    simp only [List.length_nil, Nat.zero_add, List.range_one, List.map_cons, List.map_nil, List.take_nil, knF_nil]
    rfl
  rw [hk] at h1
  simp only [World.size_alloc] at h1
  obtain ⟨W1, hW1⟩ : ∃ W, (w.alloc (.map #[] 0)).alloc (.cells zV 62) = W := ⟨_, rfl⟩
  have hb : Below (w.alloc (.map #[] 0)).heap.size (w.alloc (.map #[] 0)) W1 := by
    rw [← hW1]
    exact (Below.refl _ _).alloc (Nat.le_refl _) _
  have hs1 : W1.heap.size = w.heap.size + 1 + 1 := by
    rw [← hW1]
    simp
  rw [hW1] at h1 ⊢
  have hm1 := hm.below hb
  clear hW1
  have hr := heap_alloc_new W1 (.cells #[.int .i64 cen, .map (some w.heap.size), .slice none 0 0, .slice (some ⟨w.heap.size + 1, 0, none⟩) 1 1] 76)
  rw [hs1] at hr
  have hb2 : Below W1.heap.size W1 (W1.alloc (.cells #[.int .i64 cen, .map (some w.heap.size), .slice none 0 0, .slice (some ⟨w.heap.size + 1, 0, none⟩) 1 1] 76)) := (Below.refl _ _).alloc (Nat.le_refl _) _
  have hs2 : (W1.alloc (.cells #[.int .i64 cen, .map (some w.heap.size), .slice none 0 0, .slice (some ⟨w.heap.size + 1, 0, none⟩) 1 1] 76)).heap.size = w.heap.size + 1 + 1 + 1 := by simp [hs1]
  obtain ⟨W2, hW2⟩ : ∃ W, W1.alloc (.cells #[.int .i64 cen, .map (some w.heap.size), .slice none 0 0, .slice (some ⟨w.heap.size + 1, 0, none⟩) 1 1] 76) = W := ⟨_, rfl⟩
  rw [hW2] at hr hb2 hs2 ⊢
  clear hW2
  refine ⟨w.heap.size, .slice none 0 0, .slice (some ⟨w.heap.size + 1, 0, none⟩) 1 1, ?_⟩
  refine ⟨by simp [World.cell?, hr], by simp [World.cell?, hr], by simp [World.cell?, hr], by simp [World.cell?, hr], by simp [World.frozen?, hr], by simp [World.frozen?, hr], by omega, hm1.below hb2, World.ownsRow_nil _ _ _ _, ownsBelow h1 hb2, by omega, by simp [Value.ownBlock], by simp [Value.ownBlock], by simp [Value.ownBlock], by simp [Value.ownBlock], by simp [Value.ownBlock], .inr (by omega), .inr (by omega), by simp [Value.ownBlock], fun b hb => ?_⟩
  simp only [Value.ownBlock, Option.some.injEq] at hb
  exact .inr (by omega)
set_option maxRecDepth 100000 in
theorem new_sh (cen : Int) (h : inB cen 1 8 = true) (w : World) : Calls Try.prog 18 #[.int .i64 cen] w fun e w' => ∃ p, e = .returned (.tuple #[.pointer (some ⟨p, 0, none⟩), .int .i64 0]) ∧ Pic w' (Gr (fun _ => False) w w') p cen [] ∧ Below w.heap.size w w' := by
  have hw := fun W => within_sh cen 1 8 W
  rw [h] at hw
  have hmm := @run_makeMap Try.prog
  go_enter Try.func18, Try.ntmps18
  go_wp2_with fail
  refine (hw _).mono ?_
  rintro e w1 ⟨rfl, rfl⟩
  go_wp2_with fail
  exact bodyPost_ret (v := .tuple #[.pointer (some ⟨w.heap.size + 1 + 1, 0, none⟩), .int .i64 0]) (by simp [results, Try.results18, go_sem]) rfl ⟨_, rfl, pic_new w cen _ rfl, (((Below.refl _ _).alloc (Nat.le_refl _) _).alloc (by simp) _).alloc (by simp; omega) _⟩
theorem new_bad (cen : Int) (h : inB cen 1 8 = false) (w : World) : Calls Try.prog 18 #[.int .i64 cen] w fun e w' => e = .returned (.tuple #[.pointer none, .int .i64 4]) ∧ w = w' := by
  have hw := fun W => within_sh cen 1 8 W
  rw [h] at hw
  go_enter Try.func18, Try.ntmps18
  go_wp2_with fail
  refine (hw _).mono ?_
  rintro e w1 ⟨rfl, rfl⟩
  go_wp2_with fail
  exact bodyPost_ret (v := .tuple #[.pointer none, .int .i64 4]) (by simp [results, Try.results18, go_sem]) rfl ⟨rfl, rfl⟩
theorem zfro {w : World} {Y : Nat} {cs : Array Value} {e : TypeId} (h : w.heap[Y]? = some (.cells cs e (0, 0))) (i : Nat) : w.frozen? ⟨Y, i, none⟩ = false := by simp [World.frozen?, h]
theorem zcell0 {w : World} {Y : Nat} {e : TypeId} (h : w.heap[Y]? = some (.cells #[.int .i64 0, .int .i64 0, .string ⟨#[]⟩, .string ⟨#[]⟩, .int .i64 0, .int .i64 0, .int .i64 0] e (0, 0))) : w.cell? ⟨Y, 0, none⟩ = some (.int .i64 0) := by simp [World.cell?, h]
theorem zcell1 {w : World} {Y : Nat} {e : TypeId} (h : w.heap[Y]? = some (.cells #[.int .i64 0, .int .i64 0, .string ⟨#[]⟩, .string ⟨#[]⟩, .int .i64 0, .int .i64 0, .int .i64 0] e (0, 0))) : w.cell? ⟨Y, 1, none⟩ = some (.int .i64 0) := by simp [World.cell?, h]
theorem zcell2 {w : World} {Y : Nat} {e : TypeId} (h : w.heap[Y]? = some (.cells #[.int .i64 0, .int .i64 0, .string ⟨#[]⟩, .string ⟨#[]⟩, .int .i64 0, .int .i64 0, .int .i64 0] e (0, 0))) : w.cell? ⟨Y, 2, none⟩ = some (.string ⟨#[]⟩) := by simp [World.cell?, h]
theorem zcell3 {w : World} {Y : Nat} {e : TypeId} (h : w.heap[Y]? = some (.cells #[.int .i64 0, .int .i64 0, .string ⟨#[]⟩, .string ⟨#[]⟩, .int .i64 0, .int .i64 0, .int .i64 0] e (0, 0))) : w.cell? ⟨Y, 3, none⟩ = some (.string ⟨#[]⟩) := by simp [World.cell?, h]
theorem zcell4 {w : World} {Y : Nat} {e : TypeId} (h : w.heap[Y]? = some (.cells #[.int .i64 0, .int .i64 0, .string ⟨#[]⟩, .string ⟨#[]⟩, .int .i64 0, .int .i64 0, .int .i64 0] e (0, 0))) : w.cell? ⟨Y, 4, none⟩ = some (.int .i64 0) := by simp [World.cell?, h]
theorem zcell5 {w : World} {Y : Nat} {e : TypeId} (h : w.heap[Y]? = some (.cells #[.int .i64 0, .int .i64 0, .string ⟨#[]⟩, .string ⟨#[]⟩, .int .i64 0, .int .i64 0, .int .i64 0] e (0, 0))) : w.cell? ⟨Y, 5, none⟩ = some (.int .i64 0) := by simp [World.cell?, h]
theorem zcell6 {w : World} {Y : Nat} {e : TypeId} (h : w.heap[Y]? = some (.cells #[.int .i64 0, .int .i64 0, .string ⟨#[]⟩, .string ⟨#[]⟩, .int .i64 0, .int .i64 0, .int .i64 0] e (0, 0))) : w.cell? ⟨Y, 6, none⟩ = some (.int .i64 0) := by simp [World.cell?, h]
/-- seven cells of a block are laid -/
theorem far7 (w : World) {p Y : Nat} (h : p ≠ Y) (i : Nat) (a0 a1 a2 a3 a4 a5 a6 : Value) : (((((((w.setCell ⟨Y, 0, none⟩ a0).setCell ⟨Y, 1, none⟩ a1).setCell ⟨Y, 2, none⟩ a2).setCell ⟨Y, 3, none⟩ a3).setCell ⟨Y, 4, none⟩ a4).setCell ⟨Y, 5, none⟩ a5).setCell ⟨Y, 6, none⟩ a6).cell? ⟨p, i, none⟩ = w.cell? ⟨p, i, none⟩ := by
  have hn : ∀ (W : World) (k : Nat) (u : Value), (W.setCell ⟨Y, k, none⟩ u).cell? ⟨p, i, none⟩ = W.cell? ⟨p, i, none⟩ := fun W k u => World.cell?_setCell_other _ _ _ _ (fun e => h (congrArg Addr.block e).symm)
  rw [hn, hn, hn, hn, hn, hn, hn]
theorem block7 {w : World} {Y : Nat} {e : TypeId} {z0 z1 z2 z3 z4 z5 z6 : Value} (h : w.heap[Y]? = some (.cells #[z0, z1, z2, z3, z4, z5, z6] e (0, 0))) (a0 a1 a2 a3 a4 a5 a6 : Value) : (((((((w.setCell ⟨Y, 0, none⟩ a0).setCell ⟨Y, 1, none⟩ a1).setCell ⟨Y, 2, none⟩ a2).setCell ⟨Y, 3, none⟩ a3).setCell ⟨Y, 4, none⟩ a4).setCell ⟨Y, 5, none⟩ a5).setCell ⟨Y, 6, none⟩ a6).heap[Y]? = some (.cells #[a0, a1, a2, a3, a4, a5, a6] e (0, 0)) := by
  simp [World.setCell, Array.getElem?_modify, h]
theorem below7 {B : Nat} {w0 w : World} {Y : Nat} (hb : Below B w0 w) (h : B ≤ Y) (a0 a1 a2 a3 a4 a5 a6 : Value) : Below B w0 (((((((w.setCell ⟨Y, 0, none⟩ a0).setCell ⟨Y, 1, none⟩ a1).setCell ⟨Y, 2, none⟩ a2).setCell ⟨Y, 3, none⟩ a3).setCell ⟨Y, 4, none⟩ a4).setCell ⟨Y, 5, none⟩ a5).setCell ⟨Y, 6, none⟩ a6) :=
  ((((((hb.setCell h _).setCell h _).setCell h _).setCell h _).setCell h _).setCell h _).setCell h _
theorem Ext.trans {F : Nat → Prop} {w w1 w2 : World} (h : Ext F w w1) (k : Ext F w1 w2) : Ext F w w2 :=
  ⟨k.os.trans h.os, k.tape.trans h.tape, k.output.trans h.output, Nat.le_trans h.size k.size, fun b hb hf => (k.block b (Nat.lt_of_lt_of_le hb h.size) hf).trans (h.block b hb hf)⟩
theorem Ext.belowThen {F : Nat → Prop} {w w1 w2 : World} (h : Below w.heap.size w w1) (k : Ext F w1 w2) : Ext F w w2 := (Ext.of_below h).trans k
theorem Pic.off {w : World} {F : Nat → Prop} {p : Nat} {cen : Int} {arr : List Sd} (h : Pic w F p cen arr) {a : Addr} (ha : ¬ F a.block) (u : Value) : Pic (w.setCell a u) F p cen arr := by
  obtain ⟨m, va, vk, h⟩ := h
  exact ⟨m, va, vk, h.other ha u⟩
theorem Pic.wide {w : World} {F F' : Nat → Prop} {p : Nat} {cen : Int} {arr : List Sd} (h : Pic w F p cen arr) (hF : ∀ b, F b → F' b) : Pic w F' p cen arr := by
  obtain ⟨m, va, vk, h⟩ := h
  exact ⟨m, va, vk, PicP.wide h hF⟩
set_option maxRecDepth 100000 in
set_option maxHeartbeats 1000000 in
theorem say_sh (w : World) {F : Nat → Prop} {p : Nat} {cen : Int} {arr : List Sd} (h : Pic w F p cen arr) (hF : ∀ b, F b → b < w.heap.size) (hc : 1 ≤ cen ∧ cen ≤ 8) (hnum : Nums arr) (hl : arr.length ≤ 900) (t : Sd) :
    Calls Try.prog 26 #[.pointer (some ⟨p, 0, none⟩), .string t.key, .string t.val, .int .i64 t.time, .int .i64 t.trust, .int .i64 t.back] w fun e w' =>
      (saidB (sayOf cen arr t) = true ∧ e = .returned (.tuple #[valSd (sayOf cen arr t), .int .i64 0]) ∧ Pic w' (Gr F w w') p cen (arr ++ [sayOf cen arr t]) ∧ Ext F w w') ∨
      (saidB (sayOf cen arr t) = false ∧ e = .returned (.tuple #[valSd noSd, .int .i64 2]) ∧ Below w.heap.size w w') := by
  obtain ⟨m, va, vk, h⟩ := h
  obtain ⟨A, cc, rfl⟩ := rowSlice h.ra
  have c0 := h.c0
  have c1 := h.c1
  have c2 := h.c2
  have his := fun W (hW : W.cell? ⟨p, 1, none⟩ = some (.map (some m))) => is_sh p m W hW
  have hchk := fun W => check_sh (sayOf cen arr t) W
  have hlt := h.lt
  have HP := Lib.hid h
  have HF := Lib.hid hF
  clear h hF
  obtain ⟨d, hd, hd8⟩ : ∃ d : Nat, cen - 1 = d ∧ d < 8 := ⟨(cen - 1).toNat, by omega, by omega⟩
  have hkn : kn arr cen = knF arr d := by
    unfold knF
    rw [show ((d + 1 : Nat) : Int) = cen by omega]
  have hkl := kn_le hnum cen
  have hix := ix_v (knF arr) d hd8
  have hadd : ∀ W, PicAt W F p m (.slice A arr.length cc) vk cen arr → saidB (sayOf cen arr t) = true → Calls Try.prog 35 #[.pointer (some ⟨p, 0, none⟩), valSd (sayOf cen arr t)] W fun e w' => e = .returned (.tuple #[]) ∧ Pic w' (Gr F W w') p cen (arr ++ [sayOf cen arr t]) ∧ Ext F W w' := fun W hW hs =>
    add_sh W hW _ (SdOK.of hs) hnum (by
      have := (kn_is hnum cen).2
      exact this) (by omega)
  have hnow : ∀ W, PicAt W F p m (.slice A arr.length cc) vk cen arr → Calls Try.prog 28 #[.pointer (some ⟨p, 0, none⟩)] W fun e w' => e = .returned (valV (knF arr)) ∧ Below W.heap.size W w' := fun W hW => now_sh W hW (by omega)
  obtain ⟨s, hse⟩ : ∃ s, sayOf cen arr t = s := ⟨_, rfl⟩
  have hsv : valSd s = .agg #[.int .i64 cen, .int .i64 ((knF arr d : Int) + 1), .string t.key, .string t.val, .int .i64 t.time, .int .i64 t.trust, .int .i64 t.back] := by
    rw [← hse, ← hkn]
    rfl
  rw [hse] at hchk hadd ⊢
  rw [hsv] at hchk hadd ⊢
  rw [hkn] at hkl
  have e1 : IntKind.i64.wrap (cen - 1) = d := (wrapK _ (by omega) (by omega)).trans hd
  have e2 : IntKind.i64.wrap ((knF arr d : Int) + 1) = (knF arr d : Int) + 1 := wrapK _ (by omega) (by omega)
  unfold valV at hnow
  unfold arrV at hix
  generalize saidB s = q at *
  obtain ⟨v, hvv⟩ : ∃ v, knF arr = v := ⟨_, rfl⟩
  rw [hvv] at hnow hix hchk hadd e2 ⊢
  have HCHK := Lib.hid hchk
  have HNOW := Lib.hid hnow
  have HADD := Lib.hid hadd
  clear hchk hkn hkl hnow hadd hnum hd hc hd8 hsv hse hvv
  have hlen : ((arr.length : Int) == 1000) = false := beq_eq_false_iff_ne.2 (by omega)
  go_enter Try.func26, Try.ntmps26
  go_wp2_with fail
  have hb0 := (Below.refl w.heap.size w).alloc (Nat.le_refl _) (.cells #[.int .i64 0, .int .i64 0, .string ⟨#[]⟩, .string ⟨#[]⟩, .int .i64 0, .int .i64 0, .int .i64 0] 38)
  obtain ⟨W1, hW1⟩ : ∃ W, w.alloc (.cells #[.int .i64 0, .int .i64 0, .string ⟨#[]⟩, .string ⟨#[]⟩, .int .i64 0, .int .i64 0, .int .i64 0] 38) = W := ⟨_, rfl⟩
  have hr : W1.heap[w.heap.size]? = some (.cells #[.int .i64 0, .int .i64 0, .string ⟨#[]⟩, .string ⟨#[]⟩, .int .i64 0, .int .i64 0, .int .i64 0] 38 (0, 0)) := by
    rw [← hW1]
    exact heap_alloc_new w _
  have hz : W1.heap.size = w.heap.size + 1 := by rw [← hW1]; simp
  rw [hW1] at hb0 ⊢
  clear hW1
  have c0 := (hb0.cell (p := ⟨p, 0, none⟩) hlt).trans c0
  have c1 := (hb0.cell (p := ⟨p, 1, none⟩) hlt).trans c1
  have c2 := (hb0.cell (p := ⟨p, 2, none⟩) hlt).trans c2
  have HP1 := Lib.hid (HP.out.below hb0)
  obtain ⟨B, hB⟩ : ∃ B, w.heap.size = B := ⟨_, rfl⟩
  rw [hB] at hr hb0 hz ⊢
  refine (his _ c1).mono ?_
  rintro e w1 ⟨rfl, rfl⟩
  clear his
  go_wp2_with fail
  have hl1 : p < W1.heap.size := HP1.out.lt
  go_cut [14] from 28 to 54 (fun o wx => ∃ Y, o = .pointer (some ⟨Y, 0, none⟩) ∧ W1.heap.size ≤ Y ∧ wx.heap[Y]? = some (.cells #[.int .i64 cen, .int .i64 ((v d : Int) + 1), .string t.key, .string t.val, .int .i64 t.time, .int .i64 t.trust, .int .i64 t.back] 38 (0, 0)) ∧ Below W1.heap.size W1 wx)
  case first =>
    have HNA : Hid (Calls Try.prog 28 #[.pointer (some ⟨p, 0, none⟩)] W1.drew fun e w' => e = .returned (.agg #[.int .i64 (v 0), .int .i64 (v 1), .int .i64 (v 2), .int .i64 (v 3), .int .i64 (v 4), .int .i64 (v 5), .int .i64 (v 6), .int .i64 (v 7)]) ∧ Below W1.heap.size W1 w') := Lib.hid ((HNOW.out W1.drew (HP1.out.keep (Nat.le_refl _) (fun _ _ _ => rfl) fun _ h => h)).mono fun e w' ⟨h1, h2⟩ => ⟨h1, (belowDrew (Below.refl _ _)).trans h2⟩)
    have hZ : Below W1.heap.size W1 (W1.alloc (.cells zS 38)).drew := belowDrew ((Below.refl _ _).alloc (Nat.le_refl _) _)
    have HNB : Hid (Calls Try.prog 28 #[.pointer (some ⟨p, 0, none⟩)] (W1.alloc (.cells zS 38)).drew fun e w' => e = .returned (.agg #[.int .i64 (v 0), .int .i64 (v 1), .int .i64 (v 2), .int .i64 (v 3), .int .i64 (v 4), .int .i64 (v 5), .int .i64 (v 6), .int .i64 (v 7)]) ∧ Below W1.heap.size W1 w' ∧ w'.heap[B + 1]? = some (.cells zS 38 (0, 0))) :=
      Lib.hid ((HNOW.out _ (HP1.out.below hZ)).mono fun e w' ⟨h1, h2⟩ => ⟨h1, hZ.trans (h2.mono hZ.size), by rw [← hz]; exact (h2.block W1.heap.size (by show W1.heap.size < (W1.heap.push _).size; simp)).trans (heap_alloc_new W1 _)⟩)
    unfold zS at HNB
    have HS : Hid (∀ W, Below W1.heap.size W1 W → W.cell? ⟨p, 0, none⟩ = some (.int .i64 cen) ∧ Below W1.heap.size W1 W) := Lib.hid fun W hW => ⟨(hW.cell (p := ⟨p, 0, none⟩) hl1).trans c0, hW⟩
    have c0d : W1.drew.cell? ⟨p, 0, none⟩ = some (.int .i64 cen) := c0
    have c0a : (W1.alloc (.cells zS 38)).cell? ⟨p, 0, none⟩ = some (.int .i64 cen) := (World.cell?_alloc_lt W1 _ ⟨p, 0, none⟩ hl1).trans c0
    have c0b : (W1.alloc (.cells zS 38)).drew.cell? ⟨p, 0, none⟩ = some (.int .i64 cen) := c0a
    unfold zS at c0a c0b
    have hpY : p ≠ B + 1 := by omega
    go_region_held3 (fun W' => W'.cell? ⟨p, 0, none⟩ = some (.int .i64 cen))
      (first | with_reducible exact c0 | with_reducible exact c0d | with_reducible exact c0a | with_reducible exact c0b | with_reducible exact r0 | with_reducible exact (World.cell?_alloc_lt w2 _ ⟨p, 0, none⟩ r9).trans r0 | with_reducible exact (far7 w2 hpY 0 _ _ _ _ _ _ _).trans r0 | trace_state)
      (first | (go_at_call 28; (with_reducible refine HNA.out.mono ?_); rintro e w2 ⟨rfl, hb2⟩; have r0 : w2.cell? ⟨p, 0, none⟩ = some (.int .i64 cen) := (hb2.cell (p := ⟨p, 0, none⟩) hl1).trans c0; have r9 : p < w2.heap.size := Nat.lt_of_lt_of_le hl1 hb2.size) | (go_at_call 28; (with_reducible refine HNB.out.mono ?_); rintro e w2 ⟨rfl, hb2, hy⟩; have r0 : w2.cell? ⟨p, 0, none⟩ = some (.int .i64 cen) := (hb2.cell (p := ⟨p, 0, none⟩) hl1).trans c0; have r9 : p < w2.heap.size := Nat.lt_of_lt_of_le hl1 hb2.size; have y0 := zcell0 hy; have y1 := zcell1 hy; have y2 := zcell2 hy; have y3 := zcell3 hy; have y4 := zcell4 hy; have y5 := zcell5 hy; have y6 := zcell6 hy; have f0 := zfro hy 0; have f1 := zfro hy 1; have f2 := zfro hy 2; have f3 := zfro hy 3; have f4 := zfro hy 4; have f5 := zfro hy 5; have f6 := zfro hy 6))
    all_goals
      go_wp2_with fail
      go_meet
      first
        | (refine ⟨w2.heap.size, by with_reducible rfl, hb2.size, ?_, ?_⟩
           · exact heap_alloc_new w2 _
           · exact hb2.alloc hb2.size _)
        | (refine ⟨B + 1, by with_reducible rfl, by omega, ?_, ?_⟩
           · exact block7 hy _ _ _ _ _ _ _
           · exact below7 hb2 (by omega) _ _ _ _ _ _ _)
  case rest =>
    obtain ⟨Y, rfl, hY, hrY, hbc⟩ := hcut
    have hlY : Y < wc.heap.size := (Array.getElem?_eq_some_iff.1 hrY).1
    have y0 : wc.cell? ⟨Y, 0, none⟩ = some (.int .i64 cen) := by simp [World.cell?, hrY]
    have y1 : wc.cell? ⟨Y, 1, none⟩ = some (.int .i64 ((v d : Int) + 1)) := by simp [World.cell?, hrY]
    have y2 : wc.cell? ⟨Y, 2, none⟩ = some (.string t.key) := by simp [World.cell?, hrY]
    have y3 : wc.cell? ⟨Y, 3, none⟩ = some (.string t.val) := by simp [World.cell?, hrY]
    have y4 : wc.cell? ⟨Y, 4, none⟩ = some (.int .i64 t.time) := by simp [World.cell?, hrY]
    have y5 : wc.cell? ⟨Y, 5, none⟩ = some (.int .i64 t.trust) := by simp [World.cell?, hrY]
    have y6 : wc.cell? ⟨Y, 6, none⟩ = some (.int .i64 t.back) := by simp [World.cell?, hrY]
    go_wp2_with fail
    refine (HCHK.out _).mono ?_
    rintro e w3 ⟨rfl, hb3⟩
    have hrY := (hb3.block Y hlY).trans hrY
    have hrB := (hb3.block B (by have := hbc.size; omega)).trans ((hbc.block B (by omega)).trans hr)
    have hbw3 : Below B w w3 := (hb0.trans (hbc.mono (by omega))).trans (hb3.mono (by have := hbc.size; omega))
    have hzw3 : Y < w3.heap.size := Nat.lt_of_lt_of_le hlY hb3.size
    cases q with
    | false =>
      have z0 : w3.cell? ⟨B, 0, none⟩ = some (.int .i64 0) := by simp [World.cell?, hrB]
      have z1 : w3.cell? ⟨B, 1, none⟩ = some (.int .i64 0) := by simp [World.cell?, hrB]
      have z2 : w3.cell? ⟨B, 2, none⟩ = some (.string ⟨#[]⟩) := by simp [World.cell?, hrB]
      have z3 : w3.cell? ⟨B, 3, none⟩ = some (.string ⟨#[]⟩) := by simp [World.cell?, hrB]
      have z4 : w3.cell? ⟨B, 4, none⟩ = some (.int .i64 0) := by simp [World.cell?, hrB]
      have z5 : w3.cell? ⟨B, 5, none⟩ = some (.int .i64 0) := by simp [World.cell?, hrB]
      have z6 : w3.cell? ⟨B, 6, none⟩ = some (.int .i64 0) := by simp [World.cell?, hrB]
      have f0 := zfro hrB 0
      have f1 := zfro hrB 1
      have f2 := zfro hrB 2
      have f3 := zfro hrB 3
      have f4 := zfro hrB 4
      have f5 := zfro hrB 5
      have f6 := zfro hrB 6
      go_wp2_with fail
      obtain ⟨wz, hwz⟩ : ∃ W, (((((((w3.setCell ⟨B, 0, none⟩ (.int .i64 0)).setCell ⟨B, 1, none⟩ (.int .i64 0)).setCell ⟨B, 2, none⟩ (.string ⟨#[]⟩)).setCell ⟨B, 3, none⟩ (.string ⟨#[]⟩)).setCell ⟨B, 4, none⟩ (.int .i64 0)).setCell ⟨B, 5, none⟩ (.int .i64 0)).setCell ⟨B, 6, none⟩ (.int .i64 0)) = W := ⟨_, rfl⟩
      have hrZ : wz.heap[B]? = some (.cells #[.int .i64 0, .int .i64 0, .string ⟨#[]⟩, .string ⟨#[]⟩, .int .i64 0, .int .i64 0, .int .i64 0] 38 (0, 0)) := by
        rw [← hwz]
        exact block7 hrB _ _ _ _ _ _ _
      have r0 : wz.cell? ⟨B, 0, none⟩ = some (.int .i64 0) := by simp [World.cell?, hrZ]
      have r1 : wz.cell? ⟨B, 1, none⟩ = some (.int .i64 0) := by simp [World.cell?, hrZ]
      have r2 : wz.cell? ⟨B, 2, none⟩ = some (.string ⟨#[]⟩) := by simp [World.cell?, hrZ]
      have r3 : wz.cell? ⟨B, 3, none⟩ = some (.string ⟨#[]⟩) := by simp [World.cell?, hrZ]
      have r4 : wz.cell? ⟨B, 4, none⟩ = some (.int .i64 0) := by simp [World.cell?, hrZ]
      have r5 : wz.cell? ⟨B, 5, none⟩ = some (.int .i64 0) := by simp [World.cell?, hrZ]
      have r6 : wz.cell? ⟨B, 6, none⟩ = some (.int .i64 0) := by simp [World.cell?, hrZ]
      have hbz : Below B w wz := by
        rw [← hwz]
        exact below7 hbw3 (Nat.le_refl _) _ _ _ _ _ _ _
      rw [hwz]
      exact bodyPost_ret (v := .tuple #[valSd noSd, .int .i64 2]) (by simp [results, Try.results26, go_sem, r0, r1, r2, r3, r4, r5, r6, valSd, noSd]; rfl) rfl ⟨rfl, hbz⟩
    | true =>
      have x0 : w3.cell? ⟨Y, 0, none⟩ = some (.int .i64 cen) := by simp [World.cell?, hrY]
      have x1 : w3.cell? ⟨Y, 1, none⟩ = some (.int .i64 ((v d : Int) + 1)) := by simp [World.cell?, hrY]
      have x2 : w3.cell? ⟨Y, 2, none⟩ = some (.string t.key) := by simp [World.cell?, hrY]
      have x3 : w3.cell? ⟨Y, 3, none⟩ = some (.string t.val) := by simp [World.cell?, hrY]
      have x4 : w3.cell? ⟨Y, 4, none⟩ = some (.int .i64 t.time) := by simp [World.cell?, hrY]
      have x5 : w3.cell? ⟨Y, 5, none⟩ = some (.int .i64 t.trust) := by simp [World.cell?, hrY]
      have x6 : w3.cell? ⟨Y, 6, none⟩ = some (.int .i64 t.back) := by simp [World.cell?, hrY]
      have HP3 : PicAt w3 F p m (.slice A arr.length cc) vk cen arr := (HP1.out.below hbc).below hb3
      go_wp2_with fail
      refine (HADD.out _ HP3 trivial).mono ?_
      rintro e w4 ⟨rfl, hpic, hext⟩
      have hrY := (hext.block Y hzw3 (fun h => by have := HF.out Y h; omega)).trans hrY
      have hrB := (hext.block B (by omega) (fun h => by have := HF.out B h; omega)).trans hrB
      have v0 : w4.cell? ⟨Y, 0, none⟩ = some (.int .i64 cen) := by simp [World.cell?, hrY]
      have v1 : w4.cell? ⟨Y, 1, none⟩ = some (.int .i64 ((v d : Int) + 1)) := by simp [World.cell?, hrY]
      have v2 : w4.cell? ⟨Y, 2, none⟩ = some (.string t.key) := by simp [World.cell?, hrY]
      have v3 : w4.cell? ⟨Y, 3, none⟩ = some (.string t.val) := by simp [World.cell?, hrY]
      have v4 : w4.cell? ⟨Y, 4, none⟩ = some (.int .i64 t.time) := by simp [World.cell?, hrY]
      have v5 : w4.cell? ⟨Y, 5, none⟩ = some (.int .i64 t.trust) := by simp [World.cell?, hrY]
      have v6 : w4.cell? ⟨Y, 6, none⟩ = some (.int .i64 t.back) := by simp [World.cell?, hrY]
      have z0 : w4.cell? ⟨B, 0, none⟩ = some (.int .i64 0) := by simp [World.cell?, hrB]
      have z1 : w4.cell? ⟨B, 1, none⟩ = some (.int .i64 0) := by simp [World.cell?, hrB]
      have z2 : w4.cell? ⟨B, 2, none⟩ = some (.string ⟨#[]⟩) := by simp [World.cell?, hrB]
      have z3 : w4.cell? ⟨B, 3, none⟩ = some (.string ⟨#[]⟩) := by simp [World.cell?, hrB]
      have z4 : w4.cell? ⟨B, 4, none⟩ = some (.int .i64 0) := by simp [World.cell?, hrB]
      have z5 : w4.cell? ⟨B, 5, none⟩ = some (.int .i64 0) := by simp [World.cell?, hrB]
      have z6 : w4.cell? ⟨B, 6, none⟩ = some (.int .i64 0) := by simp [World.cell?, hrB]
      have f0 := zfro hrB 0
      have f1 := zfro hrB 1
      have f2 := zfro hrB 2
      have f3 := zfro hrB 3
      have f4 := zfro hrB 4
      have f5 := zfro hrB 5
      have f6 := zfro hrB 6
      go_wp2_with fail
      have hBF : ¬ Gr F w3 w4 B := by
        rintro (h | h)
        · have := HF.out B h
          omega
        · have := hbw3.size
          have h2 := hrB
          omega
      obtain ⟨wz, hwz⟩ : ∃ W, (((((((w4.setCell ⟨B, 0, none⟩ (.int .i64 cen)).setCell ⟨B, 1, none⟩ (.int .i64 ((v d : Int) + 1))).setCell ⟨B, 2, none⟩ (.string t.key)).setCell ⟨B, 3, none⟩ (.string t.val)).setCell ⟨B, 4, none⟩ (.int .i64 t.time)).setCell ⟨B, 5, none⟩ (.int .i64 t.trust)).setCell ⟨B, 6, none⟩ (.int .i64 t.back)) = W := ⟨_, rfl⟩
      have hrZ : wz.heap[B]? = some (.cells #[.int .i64 cen, .int .i64 ((v d : Int) + 1), .string t.key, .string t.val, .int .i64 t.time, .int .i64 t.trust, .int .i64 t.back] 38 (0, 0)) := by
        rw [← hwz]
        exact block7 hrB _ _ _ _ _ _ _
      have r0 : wz.cell? ⟨B, 0, none⟩ = some (.int .i64 cen) := by simp [World.cell?, hrZ]
      have r1 : wz.cell? ⟨B, 1, none⟩ = some (.int .i64 ((v d : Int) + 1)) := by simp [World.cell?, hrZ]
      have r2 : wz.cell? ⟨B, 2, none⟩ = some (.string t.key) := by simp [World.cell?, hrZ]
      have r3 : wz.cell? ⟨B, 3, none⟩ = some (.string t.val) := by simp [World.cell?, hrZ]
      have r4 : wz.cell? ⟨B, 4, none⟩ = some (.int .i64 t.time) := by simp [World.cell?, hrZ]
      have r5 : wz.cell? ⟨B, 5, none⟩ = some (.int .i64 t.trust) := by simp [World.cell?, hrZ]
      have r6 : wz.cell? ⟨B, 6, none⟩ = some (.int .i64 t.back) := by simp [World.cell?, hrZ]
      have hpz : Pic wz (Gr F w3 w4) p cen (arr ++ [s]) := by
        rw [← hwz]
        exact ((((((hpic.off hBF _).off hBF _).off hBF _).off hBF _).off hBF _).off hBF _).off hBF _
      have hez : Ext F w wz := by
        rw [← hwz]
        have hE0 : Ext F w w4 := (Ext.of_below (by rw [hB]; exact hbw3)).trans hext
        have hBB : w.heap.size ≤ B := Nat.le_of_eq hB
        exact ((((((hE0.setCell (.inr hBB) _).setCell (.inr hBB) _).setCell (.inr hBB) _).setCell (.inr hBB) _).setCell (.inr hBB) _).setCell (.inr hBB) _).setCell (.inr hBB) _
      have hsz : wz.heap.size = w4.heap.size := by
        rw [← hwz]
        simp
      rw [hwz]
      refine bodyPost_ret (v := .tuple #[.agg #[.int .i64 cen, .int .i64 ((v d : Int) + 1), .string t.key, .string t.val, .int .i64 t.time, .int .i64 t.trust, .int .i64 t.back], .int .i64 0]) (by simp [results, Try.results26, go_sem, r0, r1, r2, r3, r4, r5, r6]) rfl ⟨rfl, hpz.wide ?_, hez⟩
      rintro b (h | h)
      · exact .inl h
      · exact .inr ⟨by have := hbw3.size; omega, by omega⟩
end Go.Proofs.Ytngigogaiheckaa
