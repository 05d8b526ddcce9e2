/- cressetref03.Great. -/
import Derived.Test.YtnbdnnbeiohmgaaGrAlive
import Derived.Test.YtnbdnnbeiohmgaaGrHalf
namespace Go.Proofs.Ytnbdnnbeiohmgaa
open Go.RowKit Go.Shelf Go.Lib

set_option maxRecDepth 100000 in
set_option maxHeartbeats 16000000 in
theorem great_gr (W H S most : Int) (vL v : Value) (ld : List R3) (us : List Value) (w : World) (hL : Runs w vL ld) (h : Lst 1 enc1 w v us) (hu : ∀ u, u ∈ us → ∃ A n c, u = .slice A n c) :
    Calls Try.prog 10 #[.agg #[.int .i64 W, .int .i64 H, .int .i64 S, vL], .int .i64 most, v] w fun e w' =>
      (∃ o, e = .returned (.bool o) ∧ (o = false → 0 < W → 0 < H → W ≤ 256 → H ≤ 256 → W * H ≤ most)) ∧ Below w.heap.size w w' := by
  obtain ⟨AL, cL, rfl, -⟩ := (show Runs w vL ld from hL)
  obtain ⟨A, c, rfl, h1, h2, h3⟩ := h
  unfold maxLen at h2
  have b1 : Below w.heap.size w (w.alloc (.cells #[.int .i64 W, .int .i64 H, .int .i64 S, .slice AL ld.length cL] 24)) := (Below.refl w.heap.size w).alloc (Nat.le_refl _) _
  go_enter Try.func10, Try.ntmps10
  go_upto_region 1 with fail
  go_cut [40] from 8 to 40 (fun o wx => ∃ b : Bool, o = .bool b ∧ (b = false → 0 < W → 0 < H → W ≤ 256 → H ≤ 256 → W * H ≤ most) ∧ (w.alloc (.cells #[.int .i64 W, .int .i64 H, .int .i64 S, .slice AL ld.length cL] 24)) = wx)
  case first =>
    by_cases k1 : 0 < W
    · by_cases k2 : 0 < H
      · by_cases k3 : W ≤ 256
        · by_cases k4 : H ≤ 256
          · have hm : wrap64 (W * H) = W * H := by
              have := mulIn (a := W) (b := H) (A := 256) (B := 256) (by omega) (by omega)
              exact wrapId _ (by omega) (by omega)
            obtain ⟨p, hp⟩ : ∃ p, W * H = p := ⟨_, rfl⟩
            rw [hp] at hm
            by_cases k5 : most < p
            · go_wp2_with fail
              all_goals (go_meet; go_light; exact ⟨_, rfl, fun h => by simp at h, rfl⟩)
            · have k5' : p ≤ most := by omega
              go_wp2_with fail
              all_goals (go_meet; go_light; exact ⟨_, rfl, fun _ _ _ _ _ => (by omega), rfl⟩)
          · have k4' : 256 < H := by omega
            go_wp2_with fail
            all_goals (go_meet; go_light; exact ⟨_, rfl, fun _ _ _ _ h => absurd h (by omega), rfl⟩)
        · have k3' : 256 < W := by omega
          go_wp2_with fail
          all_goals (go_meet; go_light; exact ⟨_, rfl, fun _ _ _ h _ => absurd h (by omega), rfl⟩)
      · have k2' : H ≤ 0 := by omega
        go_wp2_with fail
        all_goals (go_meet; go_light; exact ⟨_, rfl, fun _ _ h _ _ => absurd h (by omega), rfl⟩)
    · have k1' : W ≤ 0 := by omega
      go_wp2_with fail
      all_goals (go_meet; go_light; exact ⟨_, rfl, fun _ h _ _ _ => absurd h (by omega), rfl⟩)
  case rest =>
    obtain ⟨o, rfl, ho, rfl⟩ := hcut
    have HO := Lib.hid ho
    clear ho
    cases o with
    | true =>
      go_wp2_with fail
      go_ret
      exact ⟨⟨true, rfl, fun h => by simp at h⟩, b1⟩
    | false =>
      have hmost := Lib.hid (HO.out rfl)
      go_wp2_with fail
      go_loopw [7] (fun i wr => ∃ k : Nat, k ≤ us.length ∧ i = .int .i64 k ∧ Below w.heap.size w wr) (fun i _ => us.length - (intOf i).toNat)
      case atStart => exact ⟨0, Nat.zero_le _, rfl, b1⟩
      case round =>
        obtain ⟨k, hk, rfl, hb⟩ := hrel
        by_cases hlt : k < us.length
        · obtain ⟨b, off, rfl, hbl, hc⟩ := h3 (by omega)
          obtain ⟨u, hu1⟩ : ∃ s, us[k]? = some s := ⟨_, List.getElem?_eq_getElem hlt⟩
          obtain ⟨A5, n5, c5, rfl⟩ := hu u (List.mem_of_getElem? hu1)
          have hx := (hb.cell (p := ⟨b, off + k * 1 + 0, none⟩) hbl).trans (hc k 0 _ _ hu1 rfl)
          simp only [Nat.mul_one, Nat.add_zero] at hx
          have hk1 : (k : Int) < (us.length : Int) := by omega
          clear hc hu1 h3 hu
          by_cases hn : 300 < n5
          · have hn' : (300 : Int) < (n5 : Int) := by omega
            go_wp2_with fail
            go_ret
            exact ⟨⟨true, rfl, fun h => by simp at h⟩, hb⟩
          · have hn' : ¬ (300 : Int) < (n5 : Int) := by omega
            go_wp2_with fail
            go_roundw
            case rel => exact ⟨k + 1, by omega, by go_num, hb⟩
            case measure => simp [intOf]; omega
        · have hke : k = us.length := by omega
          subst hke
          go_wp2_with fail
          go_ret
          exact ⟨⟨false, rfl, fun _ => hmost.out⟩, hb⟩
end Go.Proofs.Ytnbdnnbeiohmgaa
