/- share: great, long. -/
import Derived.Test.YtngigogaiheckaaShEq
namespace Go.Proofs.Ytngigogaiheckaa
open Go.RowKit Go.Shelf Go.Lib Go.Maps

def encT (t : Tk) : List Value := [.int .u8 t.who, .int .u8 t.frm, .int .u8 t.many, .bool t.say, .int .i64 t.sd.c, .int .i64 t.sd.n, .string t.sd.key, .string t.sd.val, .int .i64 t.sd.time, .int .i64 t.sd.trust, .int .i64 t.sd.back]
theorem encT_len (t : Tk) : (encT t).length = 11 := rfl
set_option maxRecDepth 100000 in
set_option maxHeartbeats 4000000 in
theorem great2_sh (v : Value) (l : List Sd) (w : World) (h : Lst 7 encSd w v l) : Calls Try.prog 17 #[v] w fun e w' => (∃ b, e = .returned (.bool b) ∧ (b = false → ∀ s, s ∈ l → s.key.size ≤ 100 ∧ s.val.size ≤ 300)) ∧ w = w' := by
  obtain ⟨A, ca, rfl, hl1, hm, -⟩ := id h
  unfold maxLen at hm
  have HA := Lib.hid h
  clear h
  obtain ⟨na, hna⟩ : ∃ n, l.length = n := ⟨_, rfl⟩
  have HNA := Lib.hid hna
  rw [hna] at hl1 ⊢
  clear hna
  go_enter Try.func17, Try.ntmps17
  by_cases h60 : 60 < na
  · have hc : ((60 : Int) < na) = True := by simp only [eq_iff_iff, iff_true]; omega
    go_wp2_with fail
    go_ret
    exact ⟨⟨_, rfl, fun e => by cases e⟩, rfl⟩
  · have hc : ((60 : Int) < na) = False := by simp only [eq_iff_iff, iff_false]; omega
    go_wp2_with fail
    go_loopw [3] (fun i wr => ∃ k : Nat, k ≤ na ∧ i = .int .i64 k ∧ (∀ s, s ∈ l.take k → s.key.size ≤ 100 ∧ s.val.size ≤ 300) ∧ w = wr) (fun i _ => na - (intOf i).toNat)
    case atStart => exact ⟨0, Nat.zero_le _, rfl, fun s hs => by simp at hs, rfl⟩
    case round =>
      obtain ⟨k, hk, rfl, hall, rfl⟩ := hrel
      have HL := Lib.hid hall
      clear hall
      by_cases hlt : k < na
      · have h1 := HNA.out
        obtain ⟨x, hx⟩ : ∃ x, l[k]? = some x := ⟨_, List.getElem?_eq_getElem (by omega)⟩
        obtain ⟨b1, o1, rfl, hb1, hc1⟩ := HA.out.at (by omega)
        have x2 := hc1 k 2 _ _ hx rfl
        have x3 := hc1 k 3 _ _ hx rfl
        have hk1 : (k : Int) < na := by omega
        have hk0 : (0 : Int) ≤ k := by omega
        have hwk : IntKind.i64.wrap ((k : Int) + 1) = k + 1 := wrapK _ (by omega) (by omega)
        have HX := Lib.hid hx
        clear hc1 hx
        by_cases q1 : 100 < x.key.size
        · have e1 : ((100 : Int) < x.key.size) = True := by simp only [eq_iff_iff, iff_true]; omega
          go_wp2_with fail
          go_ret
          exact ⟨⟨_, rfl, fun e => by cases e⟩, rfl⟩
        · have e1 : ((100 : Int) < x.key.size) = False := by simp only [eq_iff_iff, iff_false]; omega
          by_cases q2 : 300 < x.val.size
          · have e2 : ((300 : Int) < x.val.size) = True := by simp only [eq_iff_iff, iff_true]; omega
            go_wp2_with fail
            go_ret
            exact ⟨⟨_, rfl, fun e => by cases e⟩, rfl⟩
          · have e2 : ((300 : Int) < x.val.size) = False := by simp only [eq_iff_iff, iff_false]; omega
            go_wp2_with fail
            go_roundw
            case rel => exact ⟨k + 1, by omega, by go_num, fun s hs => by
              rw [take_succ' HX.out] at hs
              rcases List.mem_append.1 hs with hs | hs
              · exact HL.out s hs
              · simp at hs; subst hs; exact ⟨by omega, by omega⟩, by trivial⟩
            case measure => simp [intOf]; omega
      · obtain rfl : k = na := by omega
        have hkk : ((k : Int) < k) = False := by simp
        go_wp2_with fail
        go_ret
        exact ⟨⟨_, rfl, fun _ s hs => HL.out s (by rw [List.take_of_length_le (by rw [HNA.out]; exact Nat.le_refl _)]; exact hs)⟩, rfl⟩
theorem great_sh (v : Value) (l : List Sd) (w : World) (h : Lst 7 encSd w v l) : Calls Try.prog 17 #[v] w fun e w' => (∃ b, e = .returned (.bool b)) ∧ w = w' :=
  (great2_sh v l w h).mono fun _ _ ⟨⟨b, h1, _⟩, h2⟩ => ⟨⟨b, h1⟩, h2⟩
set_option maxRecDepth 100000 in
set_option maxHeartbeats 4000000 in
theorem long_sh (v : Value) (l : List Tk) (w : World) (h : Lst 11 encT w v l) : Calls Try.prog 8 #[v] w fun e w' => (∃ b, e = .returned (.bool b) ∧ (b = false → l.length ≤ 60)) ∧ Below w.heap.size w w' := by
  obtain ⟨A, ca, rfl, hl1, hm, -⟩ := id h
  unfold maxLen at hm
  have HA := Lib.hid h
  clear h
  obtain ⟨na, hna⟩ : ∃ n, l.length = n := ⟨_, rfl⟩
  have HNA := Lib.hid hna
  rw [hna] at hl1 ⊢
  clear hna
  go_enter Try.func8, Try.ntmps8
  by_cases h60 : 60 < na
  · have hc : ((60 : Int) < na) = True := by simp only [eq_iff_iff, iff_true]; omega
    go_wp2_with fail
    go_ret
    exact ⟨⟨_, rfl, fun e => by cases e⟩, Below.refl _ _⟩
  · have hc : ((60 : Int) < na) = False := by simp only [eq_iff_iff, iff_false]; omega
    go_wp2_with fail
    go_loopw [3] (fun i wr => ∃ k : Nat, k ≤ na ∧ i = .int .i64 k ∧ Below w.heap.size w wr) (fun i _ => na - (intOf i).toNat)
    case atStart => exact ⟨0, Nat.zero_le _, rfl, Below.refl _ _⟩
    case round =>
      obtain ⟨k, hk, rfl, hbr⟩ := hrel
      by_cases hlt : k < na
      · have h1 := HNA.out
        obtain ⟨x, hx⟩ : ∃ x, l[k]? = some x := ⟨_, List.getElem?_eq_getElem (by omega)⟩
        obtain ⟨b1, o1, rfl, hb1, hc1⟩ := HA.out.at (by omega)
        have cc := fun i u h => (hbr.cell (p := ⟨b1, o1 + k * 11 + i, none⟩) hb1).trans (hc1 k i x u hx h)
        have x4 := cc 4 _ rfl
        have x5 := cc 5 _ rfl
        have x6 := cc 6 _ rfl
        have x7 := cc 7 _ rfl
        have x8 := cc 8 _ rfl
        have x9 := cc 9 _ rfl
        have x10 := cc 10 _ rfl
        have hk1 : (k : Int) < na := by omega
        have hk0 : (0 : Int) ≤ k := by omega
        have hwk : IntKind.i64.wrap ((k : Int) + 1) = k + 1 := wrapK _ (by omega) (by omega)
        clear hc1 cc
        go_wp2_with fail
        have hlit := Lst_lit encSd_len wr wr.heap.size 1 rfl #[.int .i64 x.sd.c, .int .i64 x.sd.n, .string x.sd.key, .string x.sd.val, .int .i64 x.sd.time, .int .i64 x.sd.trust, .int .i64 x.sd.back] [x.sd] 38 rfl rfl (by unfold maxLen; omega)
        refine (great_sh _ [x.sd] _ hlit).mono ?_
        rintro e w5 ⟨⟨b, rfl⟩, rfl⟩
        have hbr2 := hbr.alloc hbr.size (.cells #[.int .i64 x.sd.c, .int .i64 x.sd.n, .string x.sd.key, .string x.sd.val, .int .i64 x.sd.time, .int .i64 x.sd.trust, .int .i64 x.sd.back] 38)
        cases b with
        | true =>
          go_wp2_with fail
          go_ret
          exact ⟨⟨_, rfl, fun e => by cases e⟩, hbr2⟩
        | false =>
          go_wp2_with fail
          go_roundw
          case rel => exact ⟨k + 1, by omega, by go_num, hbr2⟩
          case measure => simp [intOf]; omega
      · obtain rfl : k = na := by omega
        have hkk : ((k : Int) < k) = False := by simp
        go_wp2_with fail
        go_ret
        exact ⟨⟨_, rfl, fun _ => by omega⟩, hbr⟩
end Go.Proofs.Ytngigogaiheckaa
