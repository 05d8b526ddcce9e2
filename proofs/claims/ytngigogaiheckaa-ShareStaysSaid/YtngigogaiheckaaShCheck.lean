/- share: made, named, CheckSaid. -/
import Derived.Lib.Strings
import Derived.Lib.ConvBytes
import Derived.Laws.EntriesVeiled
import Derived.Test.YtngigogaiheckaaShNow
import Derived.Test.YtngigogaiheckaaShShelf
namespace Go.Proofs.Ytngigogaiheckaa
open Go.RowKit Go.Lib Go.Maps

theorem toList_eq_iff (a b : ByteArray) : a.toList = b.toList ↔ a = b := by
  rw [toList_data, toList_data]
  constructor
  · intro h
    exact ByteArray.ext (Array.toList_inj.1 h)
  · rintro rfl
    rfl
theorem eq_str (a b : ByteArray) (w : World) : (binOp BinOp.eql 9 (.string a) (.string b)).run Try.prog w = .ok (.bool (decide (a = b))) w := by
  simp only [binOp, Op.stringOp, go_sem]
  have : (a.toList == b.toList) = decide (a = b) := by
    rw [Bool.eq_iff_iff, beq_iff_eq, decide_eq_true_eq, toList_eq_iff]
  simp [go_sem, this]
set_option maxRecDepth 100000 in
theorem eq_sd (a b : Sd) (w : World) : (binOp BinOp.eql 38 (valSd a) (valSd b)).run Try.prog w = .ok (.bool (decide (a = b))) w := by
  unfold valSd
  simp [go_sem, toList_eq_iff]
  obtain ⟨a1, a2, a3, a4, a5, a6, a7⟩ := a
  obtain ⟨b1, b2, b3, b4, b5, b6, b7⟩ := b
  simp only [Sd.mk.injEq]
  by_cases h1 : a1 = b1
  · by_cases h2 : a2 = b2
    · by_cases h3 : a3 = b3
      · by_cases h4 : a4 = b4
        · by_cases h5 : a5 = b5
          · by_cases h6 : a6 = b6
            · by_cases h7 : a7 = b7 <;> simp [h1, h2, h3, h4, h5, h6, h7]
            · simp [h1, h2, h3, h4, h5, h6]
          · simp [h1, h2, h3, h4, h5]
        · simp [h1, h2, h3, h4]
      · simp [h1, h2, h3]
    · simp [h1, h2]
  · simp [h1]
set_option maxRecDepth 100000 in
theorem neq_sd (a b : Sd) (w : World) : (binOp BinOp.neq 38 (valSd a) (valSd b)).run Try.prog w = .ok (.bool (!decide (a = b))) w := by
  unfold valSd
  simp [go_sem, toList_eq_iff]
  obtain ⟨a1, a2, a3, a4, a5, a6, a7⟩ := a
  obtain ⟨b1, b2, b3, b4, b5, b6, b7⟩ := b
  simp only [Sd.mk.injEq]
  by_cases h1 : a1 = b1
  · by_cases h2 : a2 = b2
    · by_cases h3 : a3 = b3
      · by_cases h4 : a4 = b4
        · by_cases h5 : a5 = b5
          · by_cases h6 : a6 = b6
            · by_cases h7 : a7 = b7 <;> simp [h1, h2, h3, h4, h5, h6, h7]
            · simp [h1, h2, h3, h4, h5, h6]
          · simp [h1, h2, h3, h4, h5]
        · simp [h1, h2, h3, h4]
      · simp [h1, h2, h3]
    · simp [h1, h2]
  · simp [h1]

theorem value1_sh (n : Int) (w : World) : Calls Try.prog 39 #[.int .u8 n] w fun e w' => e = .returned (.bool (decide (32 ≤ n) && decide (n ≤ 126))) ∧ w' = w := by
  go_enter Try.func39, Try.ntmps39
  go_wp2_with fail
  · rename_i h
    go_ret
    exact ⟨by simp [h], rfl⟩
  · rename_i h
    go_ret
    exact ⟨by simp [show ¬ (32 : Int) ≤ n by omega], rfl⟩
theorem small1_sh (n : Int) (w : World) : Calls Try.prog 60 #[.int .u8 n] w fun e w' => e = .returned (.bool (decide (97 ≤ n) && decide (n ≤ 122))) ∧ w' = w := by
  go_enter Try.func60, Try.ntmps60
  go_wp2_with fail
  · rename_i h
    go_ret
    exact ⟨by simp [h], rfl⟩
  · rename_i h
    go_ret
    exact ⟨by simp [show ¬ (97 : Int) ≤ n by omega], rfl⟩
def nameI (n : Int) : Bool := (decide (97 ≤ n) && decide (n ≤ 122)) || (decide (48 ≤ n) && decide (n ≤ 57)) || decide (n = 45)
theorem named2_sh (n : Int) (B : Nat) (w : World) (hc : w.cell? ⟨B, 0, none⟩ = some (.func (.func 60) #[] #[])) : Calls Try.prog 61 #[.int .u8 n, .pointer (some ⟨B, 0, none⟩)] w fun e w' => e = .returned (.bool (nameI n)) ∧ w' = w := by
  unfold nameI
  have hs := small1_sh n w
  generalize (decide (97 ≤ n) && decide (n ≤ 122)) = q at *
  go_enter Try.func61, Try.ntmps61
  go_wp2_with fail
  refine hs.mono ?_
  rintro e w1 ⟨rfl, rfl⟩
  cases q with
  | true =>
    go_wp2_with fail
    go_ret
    exact ⟨by simp, rfl⟩
  | false =>
    go_wp2_with fail
    all_goals
      go_ret
      refine ⟨retOf (congrArg Value.bool ?_), rfl⟩
      first
        | rfl
        | (rw [Bool.eq_iff_iff]; simp only [Bool.or_eq_true, Bool.and_eq_true, decide_eq_true_eq, beq_iff_eq, Bool.false_eq_true, false_or, or_false, true_iff, iff_true]; omega)
/-- the predicate of made: the other way round -/
theorem made1_sh (n : Int) (B g : Nat) (lb : Array Value) (q : Bool) (w : World) (hc : w.cell? ⟨B, 0, none⟩ = some (.func (.func g) #[] lb)) (eg : ∀ args w, (callFunc g args).run Try.prog w = .ok (.enter g args) w)
    (hg : Calls Try.prog g (#[.int .u8 n] ++ lb) w fun e w' => e = .returned (.bool q) ∧ w' = w) :
    Calls Try.prog 59 #[.int .u8 n, .pointer (some ⟨B, 0, none⟩)] w fun e w' => e = .returned (.bool (!q)) ∧ w' = w := by
  go_enter Try.func59, Try.ntmps59
  go_wp2_with fail
  refine hg.mono ?_
  rintro e w1 ⟨rfl, rfl⟩
  go_wp2_with fail
  go_ret
  exact ⟨rfl, rfl⟩
theorem belowBytes (w : World) (e : TypeId) (s : ByteArray) : Below w.heap.size w (Lib.bytesWorld w e s) :=
  ⟨rfl, rfl, rfl, by rw [bytesWorld_size]; omega, fun i hi => bytesWorld_at_old w e s i hi⟩
def encB (b : UInt8) : Value := .int .u8 b.toNat
set_option maxRecDepth 100000 in
theorem made_sh (s : ByteArray) (most : Int) (g : Nat) (lb : Array Value) (p : Int → Bool) (w : World) (eg : ∀ args w, (callFunc g args).run Try.prog w = .ok (.enter g args) w) (hm : 0 ≤ most ∧ most ≤ 100000)
    (hg : ∀ (n : Int) (W : World), Below w.heap.size w W → Calls Try.prog g (#[.int .u8 n] ++ lb) W fun e w' => e = .returned (.bool (p n)) ∧ w' = W) :
    Calls Try.prog 38 #[.string s, .int .i64 most, .func (.func g) #[] lb] w fun e w' => e = .returned (.bool (inB s.size 1 most && s.data.toList.all fun b => p b.toNat)) ∧ Below w.heap.size w w' := by
  have hw := fun W => within_sh s.size 1 most W
  have hcv := fun W => Lib.run_convert_string_bytes (P := Try.prog) W 9 101 5 s Try.underlying9 Try.underlying101 Try.underlying5
  have hany : inB s.size 1 most = true → ∀ (W : World) (B N : Nat), Below w.heap.size w W → B < W.heap.size → W.heap.size = N → W.cell? ⟨B, 0, none⟩ = some (.func (.func g) #[] lb) → ∀ c, Calls Try.prog 58 #[.slice (some ⟨N, 0, none⟩) s.size c, .func (.func 59) #[] #[.pointer (some ⟨B, 0, none⟩)]] (Lib.bytesWorld W 5 s) fun e w' =>
      e = .returned (.bool (!(s.data.toList.all fun b => p b.toNat))) ∧ Below w.heap.size w w' := fun hq W B N hW hB hN hc c => by
    subst hN
    have hs : s.size ≤ 100000 := by
      simp only [inB, Bool.and_eq_true, decide_eq_true_eq] at hq
      omega
    have hcon := AnyE.slices_ContainsFunc Try.hasByte encB (fun b => !p b.toNat) 59 #[.pointer (some ⟨B, 0, none⟩)] (enters_of Try.func59 (by kernel_rfl) rfl) W.heap.size 0 s.size c s.data.toList (Lib.bytesWorld W 5 s)
      (fun W2 x hW2 => by
        have hb2 : Below W.heap.size W W2 := (belowBytes W 5 s).trans (hW2.mono (belowBytes W 5 s).size)
        have hh := made1_sh x.toNat B g lb (p x.toNat) W2 ((hb2.cell (p := ⟨B, 0, none⟩) hB).trans hc) eg (hg _ _ (hW.trans (hb2.mono hW.size)))
        exact hh.mono fun e w' ⟨h1, h2⟩ => ⟨h1, 0, by rw [h2]; rfl⟩)
      (by simp) (by omega) (fun j hj => by
        rw [Nat.zero_add, bytesWorld_cell W _ s j (by simpa using hj)]
        unfold encB
        congr 3
        simp [List.getD]
        rfl)
    refine hcon.mono ?_
    rintro e w' ⟨rfl, q, rfl⟩
    refine ⟨retOf (congrArg Value.bool ?_), belowDrewN (hW.trans ((belowBytes W 5 s).mono hW.size)) q⟩
    rw [List.take_of_length_le (by simp), List.not_all_eq_any_not]
  have HA := Lib.hid hany
  clear hg hany
  go_enter Try.func38, Try.ntmps38
  go_wp2_with fail
  refine (hw _).mono ?_
  rintro e w1 ⟨rfl, rfl⟩
  cases hq : inB s.size 1 most with
  | false =>
    go_wp2_with fail
    go_ret
    rw [hq]
    exact ⟨rfl, (Below.refl _ _).alloc (Nat.le_refl _) _⟩
  | true =>
    go_wp2_with fail
    refine (HA.out hq (w.alloc (.cells #[.func (.func g) #[] lb] 81)) w.heap.size (w.heap.size + 1) ((Below.refl _ _).alloc (Nat.le_refl _) _) (by simp) (by simp) (by unfold World.cell?; rw [heap_alloc_new w _]; rfl) _).mono ?_
    rintro e w1 ⟨rfl, hb⟩
    go_wp2_with fail
    go_ret
    rw [hq]
    exact ⟨by simp, hb⟩
theorem smallC_eq (b : UInt8) : (decide ((97 : Int) ≤ b.toNat) && decide ((b.toNat : Int) ≤ 122)) = smallC b := by
  unfold smallC
  congr 1 <;> simp <;> omega
theorem nameI_eq (b : UInt8) : nameI b.toNat = nameC b := by
  unfold nameI nameC
  rw [smallC_eq]
  congr 1
  · congr 2 <;> simp <;> omega
  · simp
    omega
theorem valueC_eq (b : UInt8) : (decide ((32 : Int) ≤ b.toNat) && decide ((b.toNat : Int) ≤ 126)) = valueC b := by
  unfold valueC
  congr 1 <;> simp <;> omega
set_option maxRecDepth 100000 in
theorem named_sh (s : ByteArray) (w : World) : Calls Try.prog 40 #[.string s] w fun e w' => e = .returned (.bool (nameB s)) ∧ Below w.heap.size w w' := by
  have e61 := enters_of Try.func61 (by kernel_rfl) rfl
  have hm : ∀ (B : Nat) (W : World), W.cell? ⟨B, 0, none⟩ = some (.func (.func 60) #[] #[]) → B < W.heap.size → Calls Try.prog 38 #[.string s, .int .i64 32, .func (.func 61) #[] #[.pointer (some ⟨B, 0, none⟩)]] W fun e w' => e = .returned (.bool (inB s.size 1 32 && s.data.toList.all fun b => nameI b.toNat)) ∧ Below W.heap.size W w' :=
    fun B W hB hl => made_sh s 32 _ _ nameI W e61 (by omega) fun n W2 h2 => named2_sh n B W2 ((h2.cell (p := ⟨B, 0, none⟩) hl).trans hB)
  have hq0 : (inB s.size 1 32 && s.data.toList.all fun b => nameI b.toNat) = true → 0 < s.size := fun h => by
    simp only [inB, Bool.and_eq_true, decide_eq_true_eq] at h
    omega
  have hn : nameB s = ((inB s.size 1 32 && s.data.toList.all fun b => nameI b.toNat) && smallC (s.data.toList.getD 0 0)) := by
    unfold nameB inB
    simp only [nameI_eq]
    congr 3
    · simp
      omega
    · simp
      omega
  rw [hn]
  generalize (inB s.size 1 32 && s.data.toList.all fun b => nameI b.toNat) = q at hm hq0
  clear hn
  have HM := Lib.hid hm
  have hsm := small1_sh (s.data.toList.getD 0 0).toNat
  have HS := Lib.hid hsm
  clear hm hsm e61
  go_enter Try.func40, Try.ntmps40
  go_wp2_with fail
  obtain ⟨W0, hW0⟩ : ∃ W, w.alloc (.cells #[.func (.func 60) #[] #[]] 81) = W := ⟨_, rfl⟩
  have c0 : W0.cell? ⟨w.heap.size, 0, none⟩ = some (.func (.func 60) #[] #[]) := by
    rw [← hW0]
    unfold World.cell?
    rw [heap_alloc_new w _]
    rfl
  have hb0 : Below w.heap.size w W0 := by
    rw [← hW0]
    exact (Below.refl _ _).alloc (Nat.le_refl _) _
  have hl : w.heap.size < W0.heap.size := by
    rw [← hW0]
    simp
  rw [hW0]
  clear hW0
  obtain ⟨B, hB⟩ : ∃ B, w.heap.size = B := ⟨_, rfl⟩
  rw [hB] at c0 hb0 hl ⊢
  have HM1 := Lib.hid (HM.out B W0.drew c0 hl)
  clear HM
  cases q with
  | false =>
    first
      | go_region_with (first | (go_at_call 38; (with_reducible refine HM1.out.mono ?_); rintro e w2 ⟨rfl, hb⟩; have hb2 : Below B w w2 := (belowDrew hb0).trans (hb.mono (Nat.le_of_lt hl))))
      | fail
    all_goals
      go_wp2_with fail
      go_ret
      rw [hB]
      exact ⟨rfl, hb2⟩
  | true =>
    have h0 := hq0 rfl
    have e0 : s.data.toList.getD 0 0 = s[0]'h0 := by
      simp [List.getD, h0]
      rfl
    rw [e0] at HS
    go_region_held3 (fun W' => W'.cell? ⟨B, 0, none⟩ = some (.func (.func 60) #[] #[]) ∧ Below B w W')
      (first | exact ⟨c0, belowDrew hb0⟩ | exact ⟨r0, hb2⟩)
      (first | (go_at_call 38; (with_reducible refine HM1.out.mono ?_); rintro e w2 ⟨rfl, hb⟩; have r0 : w2.cell? ⟨B, 0, none⟩ = some (.func (.func 60) #[] #[]) := (hb.cell (p := ⟨B, 0, none⟩) hl).trans c0; have hb2 : Below B w w2 := (belowDrew hb0).trans (hb.mono (Nat.le_of_lt hl))) | (go_at_call 60; (with_reducible refine (HS.out _).mono ?_); rintro e w3 ⟨rfl, rfl⟩))
    all_goals
      rename_i hHeld
      go_wp2_with fail
      go_ret
      rw [hB, e0, ← smallC_eq, Bool.true_and]
      exact ⟨rfl, hHeld.2⟩
theorem saidB_eq (s : Sd) : saidB s = (inB s.c 1 8 && (inB s.n 1 1000 && (inB s.back 0 (s.n - 1) && if s.key.size = 0 then decide (s = ⟨s.c, s.n, ByteArray.empty, ByteArray.empty, 0, 0, s.back⟩) && decide (0 < s.back) else nameB s.key && ((inB s.val.size 1 100 && s.val.data.toList.all fun b => decide ((32 : Int) ≤ b.toNat) && decide ((b.toNat : Int) ≤ 126)) && (inB s.time 0 1073741824 && inB s.trust 0 1000))))) := by
  obtain ⟨c, n, key, val, time, trust, back⟩ := s
  unfold saidB inB valueB
  dsimp only
  simp only [valueC_eq]
  have e1 : ∀ (a b : Prop) [Decidable a] [Decidable b], decide (a ∧ b) = (decide a && decide b) := fun a b _ _ => by simp
  simp only [e1, Bool.and_assoc]
  congr 6
  split
  · rename_i hk
    have hk' : key = ByteArray.empty := ByteArray.ext (Array.eq_empty_of_size_eq_zero hk)
    have hv : (val.size = 0) ↔ val = ByteArray.empty := ⟨fun h => ByteArray.ext (Array.eq_empty_of_size_eq_zero h), fun h => by rw [h]; rfl⟩
    rw [Bool.eq_iff_iff]
    simp only [Bool.and_eq_true, decide_eq_true_eq, Sd.mk.injEq, hv, hk']
    constructor
    · rintro ⟨h1, h2, h3, h4⟩
      exact ⟨⟨trivial, trivial, trivial, h1, h2, h3, trivial⟩, h4⟩
    · rintro ⟨⟨-, -, -, h1, h2, h3, -⟩, h4⟩
      exact ⟨h1, h2, h3, h4⟩
  · congr 1
    have e2 : decide ((1 : Int) ≤ (val.size : Int)) = decide (1 ≤ val.size) := by simp; omega
    have e3 : decide ((val.size : Int) ≤ 100) = decide (val.size ≤ 100) := by simp; omega
    rw [e2, e3]
set_option maxRecDepth 100000 in
set_option maxHeartbeats 1000000 in
theorem check_sh (s : Sd) (w : World) : Calls Try.prog 21 #[valSd s] w fun e w' => e = .returned (.bool (saidB s)) ∧ Below w.heap.size w w' := by
  have e39 := enters_of Try.func39 (by kernel_rfl) rfl
  have hm := fun W => made_sh s.val 100 _ #[] (fun n => decide (32 ≤ n) && decide (n ≤ 126)) W e39 (by omega) fun n W2 _ => value1_sh n W2
  have hn := fun W => named_sh s.key W
  have hemp : ∀ b : ByteArray, b.toList.isEmpty = decide (b.size = 0) := fun b => by
    rw [toList_data, Bool.eq_iff_iff, List.isEmpty_iff, decide_eq_true_eq]
    constructor
    · intro h
      have := congrArg List.length h
      simpa using this
    · intro h
      exact List.eq_nil_of_length_eq_zero (by simpa using h)
  have hke : (s.key = ByteArray.empty) ↔ s.key.size = 0 := ⟨fun h => by rw [h]; rfl, fun h => ByteArray.ext (Array.eq_empty_of_size_eq_zero h)⟩
  have hwr : inB s.n 1 1000 = true → wrap64 (s.n - 1) = s.n - 1 := fun h => by
    simp only [inB, Bool.and_eq_true, decide_eq_true_eq] at h
    exact wrapId _ (by omega) (by omega)
  rw [saidB_eq]
  generalize (inB s.val.size 1 100 && s.val.data.toList.all fun b => decide ((32 : Int) ≤ b.toNat) && decide ((b.toNat : Int) ≤ 126)) = qv at *
  generalize nameB s.key = qn at *
  obtain ⟨c, n, key, val, time, trust, back⟩ := s
  dsimp only [valSd] at *
  have HM := Lib.hid hm
  have HN := Lib.hid hn
  have HR := Lib.hid hwr
  clear hm hn hwr e39
  have w1h := fun W => within_sh c 1 8 W
  have w2h := fun W => within_sh n 1 1000 W
  have w3h := fun W => within_sh back 0 (n - 1) W
  have w4h := fun W => within_sh time 0 1073741824 W
  have w5h := fun W => within_sh trust 0 1000 W
  go_enter Try.func21, Try.ntmps21
  go_wp2_with fail
  obtain ⟨W1, hW1⟩ : ∃ W, w.alloc (.cells #[.int .i64 c, .int .i64 n, .string key, .string val, .int .i64 time, .int .i64 trust, .int .i64 back] 38) = W := ⟨_, rfl⟩
  have hr : W1.heap[w.heap.size]? = some (.cells #[.int .i64 c, .int .i64 n, .string key, .string val, .int .i64 time, .int .i64 trust, .int .i64 back] 38 (0, 0)) := by
    rw [← hW1]
    exact heap_alloc_new w _
  have hb1 : Below w.heap.size w W1 := by
    rw [← hW1]
    exact (Below.refl _ _).alloc (Nat.le_refl _) _
  rw [hW1]
  clear hW1
  obtain ⟨B, hB⟩ : ∃ B, w.heap.size = B := ⟨_, rfl⟩
  rw [hB] at hr hb1 ⊢
  have hl : B < W1.heap.size := (Array.getElem?_eq_some_iff.1 hr).1
  have c1 : W1.cell? ⟨B, 1, none⟩ = some (.int .i64 n) := by simp [World.cell?, hr]
  have c2 : W1.cell? ⟨B, 2, none⟩ = some (.string key) := by simp [World.cell?, hr]
  have c3 : W1.cell? ⟨B, 3, none⟩ = some (.string val) := by simp [World.cell?, hr]
  have c6 : W1.cell? ⟨B, 6, none⟩ = some (.int .i64 back) := by simp [World.cell?, hr]
  have c0 : W1.cell? ⟨B, 0, none⟩ = some (.int .i64 c) := by simp [World.cell?, hr]
  have c4 : W1.cell? ⟨B, 4, none⟩ = some (.int .i64 time) := by simp [World.cell?, hr]
  have c5 : W1.cell? ⟨B, 5, none⟩ = some (.int .i64 trust) := by simp [World.cell?, hr]
  refine (w1h _).mono ?_
  rintro e w1 ⟨rfl, rfl⟩
  cases q1 : inB c 1 8 with
  | false =>
    go_wp2_with fail
    all_goals
      go_ret
      try rw [hB]
      refine ⟨retOf (congrArg Value.bool ?_), hb1⟩
      first
        | rfl
        | simp [*]
        | simp_all
  | true =>
    go_wp2_with fail
    refine (w2h _).mono ?_
    rintro e w1 ⟨rfl, rfl⟩
    cases q2 : inB n 1 1000 with
    | false =>
      go_wp2_with fail
      all_goals
        go_ret
        try rw [hB]
        refine ⟨retOf (congrArg Value.bool ?_), hb1⟩
        first
          | rfl
          | simp [*]
          | simp_all
    | true =>
      have hwr := HR.out q2
      go_wp2_with fail
      refine (w3h _).mono ?_
      rintro e w1 ⟨rfl, rfl⟩
      cases q3 : inB back 0 (n - 1) with
      | false =>
        go_wp2_with fail
        all_goals
          go_ret
          try rw [hB]
          refine ⟨retOf (congrArg Value.bool ?_), hb1⟩
          first
            | rfl
            | simp [*]
            | simp_all
      | true =>
        by_cases hk0 : key.size = 0
        · have hk1 : decide (key = ByteArray.empty) = true := decide_eq_true (hke.2 hk0)
          go_wp2_with fail
          all_goals
            go_ret
            try rw [hB]
            refine ⟨retOf (congrArg Value.bool ?_), hb1⟩
            first
              | rfl
              | simp [*]
              | simp_all
        · have hk1 : key.toList.isEmpty = false := by rw [hemp, decide_eq_false hk0]
          clear hemp
          go_wp2_with fail
          refine (HM.out _).mono ?_
          rintro e w2 ⟨rfl, hb2⟩
          have c2 := (hb2.cell (p := ⟨B, 2, none⟩) hl).trans c2
          have c4 := (hb2.cell (p := ⟨B, 4, none⟩) hl).trans c4
          have c5 := (hb2.cell (p := ⟨B, 5, none⟩) hl).trans c5
          have hb2 : Below B w w2 := hb1.trans (hb2.mono (Nat.le_of_lt hl))
          have hl2 : B < w2.heap.size := by
            have := hb2.size
            rcases Nat.lt_or_ge B w2.heap.size with h | h
            · exact h
            · unfold World.cell? at c2
              rw [Array.getElem?_eq_none h] at c2
              cases c2
          cases qv with
          | false =>
            go_wp2_with fail
            refine (HN.out _).mono ?_
            rintro e w3 ⟨rfl, hb3⟩
            have hb3 : Below B w w3 := hb2.trans (hb3.mono (Nat.le_of_lt hl2))
            cases qn <;> go_wp2_with fail
            all_goals
              go_ret
              try rw [hB]
              refine ⟨retOf (congrArg Value.bool ?_), hb3⟩
              first
                | rfl
                | simp [*]
                | simp_all
          | true =>
            go_wp2_with fail
            refine (HN.out _).mono ?_
            rintro e w3 ⟨rfl, hb3⟩
            have c4 := (hb3.cell (p := ⟨B, 4, none⟩) hl2).trans c4
            have c5 := (hb3.cell (p := ⟨B, 5, none⟩) hl2).trans c5
            have hb3 : Below B w w3 := hb2.trans (hb3.mono (Nat.le_of_lt hl2))
            cases qn with
            | false =>
              go_wp2_with fail
              all_goals
                go_ret
                try rw [hB]
                refine ⟨retOf (congrArg Value.bool ?_), hb3⟩
                first
                  | rfl
                  | simp [*]
                  | simp_all
            | true =>
              go_wp2_with fail
              refine (w4h _).mono ?_
              rintro e w4 ⟨rfl, rfl⟩
              cases q4 : inB time 0 1073741824 with
              | false =>
                go_wp2_with fail
                all_goals
                  go_ret
                  try rw [hB]
                  refine ⟨retOf (congrArg Value.bool ?_), hb3⟩
                  first
                    | rfl
                    | simp [*]
                    | simp_all
              | true =>
                go_wp2_with fail
                refine (w5h _).mono ?_
                rintro e w4 ⟨rfl, rfl⟩
                cases q5 : inB trust 0 1000 <;> go_wp2_with fail
                all_goals
                  go_ret
                  try rw [hB]
                  refine ⟨retOf (congrArg Value.bool ?_), hb3⟩
                  first
                    | rfl
                    | simp [*]
                    | simp_all

end Go.Proofs.Ytngigogaiheckaa
