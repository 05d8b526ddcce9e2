/- grid.All; little, one, Same. -/
import Derived.Test.YtnbdnnbeiohmgaaGrDisc
namespace Go.Proofs.Ytnbdnnbeiohmgaa
open Go.RowKit Go.Shelf Go.Lib

theorem all1_gr (W : Int) (y B : Nat) (w : World) (hW : 1 ≤ W ∧ W ≤ 256) (hB : B < w.heap.size) (c0 : w.cell? ⟨B, 0, none⟩ = some (.int .i64 W)) :
    Calls Try.prog 89 #[.int .i64 y, .pointer (some ⟨B, 0, none⟩)] w fun e w' => e = .returned (.tuple #[.int .i64 0, .int .i64 (W - 1)]) ∧ Below w.heap.size w w' := by
  have e1 : IntKind.i64.wrap (W - 1) = W - 1 := wrapK _ (by omega) (by omega)
  have e2 : wrap64 (W - 1) = W - 1 := wrapId _ (by omega) (by omega)
  go_enter Try.func89, Try.ntmps89
  go_wp2_with fail
  go_quiet (fail)
  go_wp2_with fail
  exact bodyPost_ret (v := .tuple #[.int .i64 0, .int .i64 (W - 1)]) (by simp [results, Try.results89, go_sem]) rfl ⟨rfl, belowDrewN (Below.refl _ _) _⟩

set_option maxRecDepth 100000 in
set_option maxHeartbeats 4000000 in
theorem all_gr (W H S : Int) (vL : Value) (ld : List R3) (w : World) (h : Runs w vL ld) (k1 : checkG W H S ld = true) :
    Calls Try.prog 39 #[.agg #[.int .i64 W, .int .i64 H, .int .i64 S, vL]] w fun e w' =>
      (∃ R, RegOf (fillF W (fun _ => (0, W - 1)) H.toNat) R ∧ ∃ v, e = .returned (.tuple #[v, .int .i64 0]) ∧ Runs w' v R) ∧ Below w.heap.size w w' := by
  obtain ⟨hW, hH, hS, -⟩ := checkG_iff k1
  have b1 : Below w.heap.size w (w.alloc (.cells #[.int .i64 W, .int .i64 H, .int .i64 S, vL] 24)) := (Below.refl w.heap.size w).alloc (Nat.le_refl _) _
  have hG := checkGrid_gr W H S vL ld _ (h.below b1)
  rw [k1, argE_true] at hG
  have HG := Lib.hid hG
  clear hG h
  go_enter Try.func39, Try.ntmps39
  go_wp2_with fail
  refine HG.out.mono ?_
  rintro e w1 ⟨rfl, hb1⟩
  have b2 := b1.trans (hb1.mono (by simp))
  have c0 := hb1.cell (p := ⟨w.heap.size, 0, none⟩) (by simp)
  have c1 := hb1.cell (p := ⟨w.heap.size, 1, none⟩) (by simp)
  have c2 := hb1.cell (p := ⟨w.heap.size, 2, none⟩) (by simp)
  have c3 := hb1.cell (p := ⟨w.heap.size, 3, none⟩) (by simp)
  have hz := hb1.size
  simp [go_sem] at c0 c1 c2 c3 hz
  clear HG hb1 b1
  have eg : ∀ args w, (callFunc 89 args).run Try.prog w = .ok (.enter 89 args) w := enters_of Try.func89 (by kernel_rfl) rfl
  have hf := filled_ok W H S vL 89 #[.pointer (some ⟨w.heap.size, 0, none⟩)] (fun _ => (0, W - 1)) w1 hW hH eg (fun y W' hyy hbl => all1_gr W y w.heap.size W' hW (by have := hbl.size; omega) ((hbl.cell (p := ⟨w.heap.size, 0, none⟩) (by show w.heap.size < w1.heap.size; omega)).trans c0)) (fun y => by simp only; omega)
  have HF := Lib.hid hf
  clear hf eg
  go_wp2_with fail
  refine HF.out.mono ?_
  rintro e w3 ⟨⟨R, hR, v, rfl, hv⟩, hb3⟩
  have HRg := Lib.hid hR
  have HV := Lib.hid hv
  clear hR hv
  go_wp2_with fail
  exact bodyPost_ret (v := .tuple #[v, .int .i64 0]) (by simp [results, Try.results39, go_sem]) rfl ⟨⟨R, HRg.out, v, rfl, HV.out⟩, b2.trans (hb3.mono (by omega))⟩

/-- rows of one span at most -/
theorem MergeOf.single {l m : List S2} (h : MergeOf l m) (hl : l.length ≤ 1) : m = l := by
  obtain ⟨l', hp, -, rfl⟩ := h
  match l, hl with
  | [], _ => rw [hp.eq_nil]; rfl
  | [a], _ => rw [List.perm_singleton.1 hp]; rfl
theorem RegOf.single {f : Nat → List S2} {R : List R3} (h : RegOf f R) (hf : ∀ y, y < 256 → (f y).length ≤ 1) : R = rowsR f 256 := by
  obtain ⟨ms, hm, rfl⟩ := h
  unfold rowsR
  rw [List.flatMap_def, List.flatMap_def]
  refine congrArg List.flatten (List.map_congr_left fun y hy => ?_)
  rw [(hm y (List.mem_range.1 hy)).single (hf y (List.mem_range.1 hy))]

theorem little_gr (w : World) : Calls Try.prog 36 #[] w fun e w' => (∃ v, e = .returned (.agg #[.int .i64 4, .int .i64 3, .int .i64 10, v]) ∧ Runs w' v [(0, 0, 2)]) ∧ Below w.heap.size w w' := by
  go_enter Try.func36, Try.ntmps36
  go_wp2_with fail
  refine bodyPost_ret (v := .agg #[.int .i64 4, .int .i64 3, .int .i64 10, .slice (some ⟨w.heap.size + 1, 0, none⟩) 1 1]) (by simp [results, Try.results36, go_sem]) rfl ⟨⟨_, rfl, ?_⟩, ?_⟩
  · exact Lst_lit encR_len _ (w.heap.size + 1) 1 (by simp) #[.int .i64 0, .int .i64 0, .int .i64 2] [(0, 0, 2)] 72 rfl rfl (by unfold maxLen; omega)
  · exact ((Below.refl _ _).alloc (Nat.le_refl _) _).alloc (by simp) _

theorem one_gr (x y : Int) (w : World) (hx : -9223372036854775808 ≤ x + 1 ∧ x + 1 ≤ 9223372036854775807) : Calls Try.prog 17 #[.int .i64 x, .int .i64 y] w fun e w' => (∃ v, e = .returned v ∧ Runs w' v [(y, x, x + 1)]) ∧ Below w.heap.size w w' := by
  have e1 : wrap64 (x + 1) = x + 1 := wrapId _ (by omega) (by omega)
  have hlit := Lst_lit encR_len w w.heap.size 1 rfl #[.int .i64 y, .int .i64 x, .int .i64 (x + 1)] [(y, x, x + 1)] 72 rfl rfl (by unfold maxLen; omega)
  have HL := Lib.hid hlit
  clear hlit
  go_enter Try.func17, Try.ntmps17
  go_wp2_with fail
  go_ret
  exact ⟨⟨_, rfl, HL.out⟩, (Below.refl _ _).alloc (Nat.le_refl _) _⟩

set_option maxRecDepth 100000 in
set_option maxHeartbeats 4000000 in
/-- Same, of two lists that are the same -/
theorem same_gr (v u : Value) (l : List R3) (w : World) (h : Runs w v l) (k : Runs w u l) : Calls Try.prog 33 #[v, u] w fun e w' => e = .returned (.bool true) ∧ Below w.heap.size w w' := by
  obtain ⟨A1, c1, rfl, h1, h2, h3⟩ := h
  obtain ⟨A2, c2, rfl, g1, g2, g3⟩ := k
  unfold maxLen at h2 g2
  go_enter Try.func33, Try.ntmps33
  go_wp2_with fail
  go_loopw [5] (fun i wr => ∃ k : Nat, k ≤ l.length ∧ i = .int .i64 k ∧ Below w.heap.size w wr) (fun i _ => l.length - (intOf i).toNat)
  case atStart => exact ⟨0, Nat.zero_le _, rfl, Below.refl _ _⟩
  case round =>
    obtain ⟨k, hk, rfl, hb⟩ := hrel
    by_cases hlt : k < l.length
    · obtain ⟨b1, o1, rfl, hl1, m⟩ := h3 (by omega)
      obtain ⟨b2, o2, rfl, hl2, q⟩ := g3 (by omega)
      obtain ⟨⟨y, f, t⟩, hx⟩ : ∃ x, l[k]? = some x := ⟨_, List.getElem?_eq_getElem hlt⟩
      have m0 := (hb.cell (p := ⟨b1, o1 + k * 3, none⟩) hl1).trans (m k 0 _ _ hx rfl)
      have m1 := (hb.cell (p := ⟨b1, o1 + k * 3 + 1, none⟩) hl1).trans (m k 1 _ _ hx rfl)
      have m2 := (hb.cell (p := ⟨b1, o1 + k * 3 + 2, none⟩) hl1).trans (m k 2 _ _ hx rfl)
      have q0 := (hb.cell (p := ⟨b2, o2 + k * 3, none⟩) hl2).trans (q k 0 _ _ hx rfl)
      have q1 := (hb.cell (p := ⟨b2, o2 + k * 3 + 1, none⟩) hl2).trans (q k 1 _ _ hx rfl)
      have q2 := (hb.cell (p := ⟨b2, o2 + k * 3 + 2, none⟩) hl2).trans (q k 2 _ _ hx rfl)
      have hk0 : (0 : Int) ≤ (k : Int) := by omega
      have hk1 : (k : Int) < (l.length : Int) := by omega
      clear m q hx h3 g3
      go_wp2_with fail
      go_quiet (fail)
      go_wp2_with fail
      go_roundw
      case rel => exact ⟨k + 1, by omega, by go_num, belowDrewN hb _⟩
      case measure => simp [intOf]; omega
    · have hke : k = l.length := by omega
      subst hke
      go_wp2_with fail
      go_ret
      exact ⟨rfl, hb⟩
end Go.Proofs.Ytnbdnnbeiohmgaa
