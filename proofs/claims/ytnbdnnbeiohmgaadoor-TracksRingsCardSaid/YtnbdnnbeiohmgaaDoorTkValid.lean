/- Slices of spots: how they read; valid. -/
import Derived.Test.YtnbdnnbeiohmgaaDoorTkLeaf
namespace Go.Proofs.YtnbdnnbeiohmgaaDoor
open Go.RowKit

/-- the slice value v reads as the spots l -/
def Spots (w : World) (v : Value) (l : List (Int × Int)) : Prop :=
  ∃ A c, v = .slice A l.length c ∧ l.length ≤ c ∧ c ≤ maxLen ∧ (0 < l.length → ∃ b off, A = some ⟨b, off, none⟩ ∧ b < w.heap.size ∧
    ∀ (k : Nat) (s : Int × Int), l[k]? = some s → w.cell? ⟨b, off + k * 2, none⟩ = some (.int .i64 s.1) ∧ w.cell? ⟨b, off + k * 2 + 1, none⟩ = some (.int .i64 s.2))

theorem Spots.keep {w w' : World} {v : Value} {l : List (Int × Int)} (h : Spots w v l) (hs : w.heap.size ≤ w'.heap.size) (hk : ∀ p : Addr, p.block < w.heap.size → w'.cell? p = w.cell? p) : Spots w' v l := by
  obtain ⟨A, c, e, h1, h2, h3⟩ := h
  refine ⟨A, c, e, h1, h2, fun h0 => ?_⟩
  obtain ⟨b, off, e', hb, hc⟩ := h3 h0
  exact ⟨b, off, e', by omega, fun k s hks => ⟨(hk ⟨b, off + k * 2, none⟩ hb).trans (hc k s hks).1, (hk ⟨b, off + k * 2 + 1, none⟩ hb).trans (hc k s hks).2⟩⟩
theorem Spots.below {w w' : World} {v : Value} {l : List (Int × Int)} (h : Spots w v l) (hb : Below w.heap.size w w') : Spots w' v l := h.keep hb.size fun _ hp => hb.cell hp
theorem Spots.alloc {w : World} {v : Value} {l : List (Int × Int)} (h : Spots w v l) (o : Obj) : Spots (w.alloc o) v l := h.below ((Below.refl _ _).alloc (Nat.le_refl _) _)

set_option maxHeartbeats 400000 in
theorem index_tk (v : Value) (l : List (Int × Int)) (w : World) (h : Spots w v l) :
    Calls Tryd.prog 60 #[v, .func (.func 40) #[] #[]] w fun e w' =>
      (∃ i : Int, e = .returned (.int .i64 i) ∧ (0 ≤ i ↔ l.any (fun s => !okS s) = true)) ∧ Below w.heap.size w w' := by
  obtain ⟨A, c, rfl, h1, h2, h3⟩ := h
  unfold maxLen at h2
  go_enter Tryd.func60, Tryd.ntmps60
  go_wp2_with fail
  go_loopw [8] (fun i wr => ∃ k : Nat, k ≤ l.length ∧ i = .int .i64 k ∧ Below w.heap.size w wr ∧ Hid (∀ j, j < k → ∀ s, l[j]? = some s → okS s = true)) (fun i _ => l.length - (intOf i).toNat)
  case atStart => exact ⟨0, Nat.zero_le _, rfl, Below.refl _ _, fun j hj => by omega⟩
  case round =>
    obtain ⟨k, hk, rfl, hb, hA⟩ := hrel
    by_cases hlt : k < l.length
    · obtain ⟨b, off, rfl, hbl, hc⟩ := h3 (by omega)
      obtain ⟨⟨x, y⟩, hs⟩ : ∃ s, l[k]? = some s := ⟨_, List.getElem?_eq_getElem hlt⟩
      have hx := (hb.cell (p := ⟨b, off + k * 2, none⟩) hbl).trans (hc k _ hs).1
      have hy := (hb.cell (p := ⟨b, off + k * 2 + 1, none⟩) hbl).trans (hc k _ hs).2
      have HS := Lib.hid hs
      clear hs hc h3
      dsimp only at hx hy
      have hcall := odd_tk x y wr
      cases hok : okS (x, y) with
      | true =>
        rw [hok] at hcall
        have HC := Lib.hid hcall
        have HO := Lib.hid hok
        clear hcall hok
        go_wp2_with fail
        refine HC.out.mono ?_
        rintro e w1 ⟨rfl, hb1⟩
        go_wp2_with fail
        go_roundw
        case rel => exact ⟨k + 1, by omega, by go_num, hb.trans (hb1.mono hb.size), fun j hj s hs => by
          by_cases e : j = k
          · subst e; rw [HS.out] at hs; cases hs; exact HO.out
          · exact hA.out j (by omega) s hs⟩
        case measure => simp [intOf]; omega
      | false =>
        rw [hok] at hcall
        have HC := Lib.hid hcall
        have HO := Lib.hid hok
        clear hcall hok
        go_wp2_with fail
        refine HC.out.mono ?_
        rintro e w1 ⟨rfl, hb1⟩
        go_wp2_with fail
        go_ret
        refine ⟨⟨k, rfl, ?_⟩, hb.trans (hb1.mono hb.size)⟩
        have hm : (x, y) ∈ l := List.mem_of_getElem? HS.out
        have : l.any (fun s => !okS s) = true := List.any_eq_true.2 ⟨_, hm, by rw [HO.out]; rfl⟩
        simp [this]
    · have hke : k = l.length := by omega
      subst hke
      go_wp2_with fail
      go_ret
      refine ⟨⟨-1, rfl, ?_⟩, hb⟩
      have : l.any (fun s => !okS s) = false := by
        rw [List.any_eq_false]
        intro s hs
        obtain ⟨j, hj, e⟩ := List.getElem_of_mem hs
        have := hA.out j hj s (by rw [List.getElem?_eq_getElem hj, e])
        simp [this]
      simp [this]

theorem contains_tk (v : Value) (l : List (Int × Int)) (w : World) (h : Spots w v l) :
    Calls Tryd.prog 39 #[v, .func (.func 40) #[] #[]] w fun e w' =>
      e = .returned (.bool (!l.all okS)) ∧ Below w.heap.size w w' := by
  have hi := index_tk v l w h
  obtain ⟨A, c, rfl, -⟩ := h
  have HI := Lib.hid hi
  clear hi
  go_enter Tryd.func39, Tryd.ntmps39
  go_wp2_with fail
  refine HI.out.mono ?_
  rintro e w1 ⟨⟨i, rfl, hi⟩, hb⟩
  have HI2 := Lib.hid hi
  clear hi
  go_wp2_with fail
  go_ret
  refine ⟨ret_of ?_, hb⟩
  congr 1
  have e1 : (!l.all okS) = l.any (fun s => !okS s) := by rw [List.not_all_eq_any_not]
  rw [e1]
  cases hq : l.any (fun s => !okS s) with
  | true => simp [HI2.out.2 hq]
  | false =>
    have : ¬ 0 ≤ i := fun h0 => by rw [HI2.out.1 h0] at hq; cases hq
    simp [this]

/-- valid -/
theorem valid_tk (v : Value) (l : List (Int × Int)) (w : World) (h : Spots w v l) :
    Calls Tryd.prog 21 #[v] w fun e w' => e = .returned (.bool (l.all okS)) ∧ Below w.heap.size w w' := by
  have hi := contains_tk v l w h
  obtain ⟨A, c, rfl, -⟩ := h
  have HI := Lib.hid hi
  clear hi
  go_enter Tryd.func21, Tryd.ntmps21
  go_wp2_with fail
  refine HI.out.mono ?_
  rintro e w1 ⟨rfl, hb⟩
  go_wp2_with fail
  go_ret
  exact ⟨ret_of (by simp), hb⟩
end Go.Proofs.YtnbdnnbeiohmgaaDoor
