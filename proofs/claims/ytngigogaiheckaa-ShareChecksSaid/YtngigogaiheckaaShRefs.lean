/- share: the reference's CheckSaid. -/
import Derived.Test.YtngigogaiheckaaShCheck
namespace Go.Proofs.Ytngigogaiheckaa
open Go.RowKit Go.Shelf Go.Lib Go.Maps

theorem rin0_sh (n lo hi : Int) (w : World) : Calls Try.prog 62 #[.int .i64 n, .int .i64 lo, .int .i64 hi] w fun e w' => e = .returned (.bool (inB n lo hi)) ∧ w = w' := by
  unfold inB
  go_enter Try.func62, Try.ntmps62
  by_cases h1 : lo ≤ n
  · go_wp2_with fail
    go_ret
    exact ⟨by simp [h1], rfl⟩
  · go_wp2_with fail
    go_ret
    exact ⟨by simp [show ¬ lo ≤ n by omega], rfl⟩
theorem rin_sh (n lo hi : Int) (w : World) : Calls Try.prog 41 #[.int .i64 n, .int .i64 lo, .int .i64 hi] w fun e w' => e = .returned (.bool (inB n lo hi)) ∧ w = w' := by
  have h := fun W => rin0_sh n lo hi W
  go_enter Try.func41, Try.ntmps41
  go_wp2_with fail
  refine (h _).mono ?_
  rintro e w1 ⟨rfl, rfl⟩
  go_wp2_with fail
  go_ret
  exact ⟨rfl, rfl⟩
theorem rtime_sh (n : Int) (w : World) : Calls Try.prog 44 #[.int .i64 n] w fun e w' => e = .returned (.bool (inB n 0 1073741824)) ∧ w = w' := by
  have h := fun W => rin0_sh n 0 1073741824 W
  go_enter Try.func44, Try.ntmps44
  go_wp2_with fail
  refine (h _).mono ?_
  rintro e w1 ⟨rfl, rfl⟩
  go_wp2_with fail
  go_ret
  exact ⟨rfl, rfl⟩
theorem all_take {α : Type} {p : α → Bool} {l : List α} {k : Nat} {x : α} (h : l[k]? = some x) : (l.take (k + 1)).all p = ((l.take k).all p && p x) := by
  rw [List.take_add_one, h]
  simp
theorem all_not {α : Type} {p : α → Bool} {l : List α} {k : Nat} {x : α} (h : l[k]? = some x) (hx : p x = false) : l.all p = false := by
  rw [← Bool.not_eq_true, List.all_eq_true]
  intro hh
  rw [hh x (List.mem_of_getElem? h)] at hx
  cases hx
theorem valueB_eq (s : ByteArray) : valueB s = (s.data.toList.all valueC && inB s.size 1 100) := by
  unfold valueB inB
  rw [Bool.and_comm]
  congr 1
  rw [Bool.eq_iff_iff]
  simp only [Bool.and_eq_true, decide_eq_true_eq]
  omega
theorem nameB_eq (s : ByteArray) : nameB s = (inB s.size 1 32 && smallC (s.data.toList.getD 0 0) && s.data.toList.all nameC) := by
  unfold nameB inB
  rw [Bool.eq_iff_iff]
  simp only [Bool.and_eq_true, decide_eq_true_eq]
  constructor
  · rintro ⟨⟨h1, h2⟩, h3⟩
    exact ⟨⟨by omega, h3⟩, h2⟩
  · rintro ⟨⟨h1, h3⟩, h2⟩
    exact ⟨⟨by omega, h2⟩, h3⟩
set_option maxRecDepth 100000 in
set_option maxHeartbeats 2000000 in
theorem rvalue_sh (s : ByteArray) (w : World) (hs : s.size ≤ 1000) : Calls Try.prog 43 #[.string s] w fun e w' => e = .returned (.bool (valueB s)) ∧ w = w' := by
  obtain ⟨n, hn⟩ : ∃ n, s.size = n := ⟨_, rfl⟩
  have hdl : s.data.toList.length = n := by rw [← hn]; rfl
  have hin := fun W => rin_sh (n : Int) 1 100 W
  have HI := Lib.hid hin
  clear hin
  rw [valueB_eq, hn]
  obtain ⟨r, hr⟩ : ∃ r, (s.data.toList.all valueC && inB (n : Int) 1 100) = r := ⟨_, rfl⟩
  have HR := Lib.hid hr
  rw [hr]
  clear hr
  go_enter Try.func43, Try.ntmps43
  go_wp2_with fail
  go_loop [3] (fun i => ∃ k : Nat, k ≤ n ∧ i = .int .i64 k ∧ (s.data.toList.take k).all valueC = true) (fun i => n - (intOf i).toNat)
  case atStart => exact ⟨0, Nat.zero_le _, rfl, rfl⟩
  case round =>
    obtain ⟨k, hk, rfl, hall⟩ := hrel
    by_cases hlt : k < n
    · have h0 : k < s.size := by omega
      obtain ⟨x, hx⟩ : ∃ x, s.data.toList[k]? = some x := ⟨_, List.getElem?_eq_getElem (by omega)⟩
      have hxx : s[k]'h0 = x := by
        rw [List.getElem?_eq_getElem (by omega)] at hx
        exact Option.some.inj hx
      have hk1 : (k : Int) < n := by omega
      have hk0 : (0 : Int) ≤ k := by omega
      have hwk : IntKind.i64.wrap ((k : Int) + 1) = k + 1 := wrapK _ (by omega) (by omega)
      go_wp2_with fail
      case roundEnd =>
        refine ⟨⟨k + 1, by omega, by go_num, ?_⟩, by simp [intOf]; omega⟩
        rw [all_take hx, hall]
        unfold valueC
        simp
        omega
      all_goals
        go_ret
        have hr := HR.out
        rw [all_not hx (by unfold valueC; simp; omega), Bool.false_and] at hr
        rw [← hr]
        exact ⟨rfl, rfl⟩
    · obtain rfl : k = n := by omega
      have hkk : ((k : Int) < k) = False := by simp
      have hr := HR.out
      rw [List.take_of_length_le (by omega)] at hall
      rw [hall, Bool.true_and] at hr
      have HR := Lib.hid hr
      clear hr
      go_wp2_with fail
      refine (HI.out _).mono ?_
      rintro e w1 ⟨rfl, rfl⟩
      go_wp2_with fail
      go_ret
      rw [← HR.out]
      exact ⟨rfl, rfl⟩
set_option maxRecDepth 100000 in
set_option maxHeartbeats 4000000 in
theorem rname_sh (s : ByteArray) (w : World) (hs : s.size ≤ 1000) : Calls Try.prog 42 #[.string s] w fun e w' => e = .returned (.bool (nameB s)) ∧ w = w' := by
  obtain ⟨n, hn⟩ : ∃ n, s.size = n := ⟨_, rfl⟩
  have hdl : s.data.toList.length = n := by rw [← hn]; rfl
  have hin := fun W => rin0_sh (n : Int) 1 32 W
  have hq : inB (n : Int) 1 32 = true → 0 < n := fun h => by
    simp only [inB, Bool.and_eq_true, decide_eq_true_eq] at h
    omega
  rw [nameB_eq, hn]
  generalize inB (n : Int) 1 32 = q at *
  obtain ⟨r, hr⟩ : ∃ r, (q && smallC (s.data.toList.getD 0 0) && s.data.toList.all nameC) = r := ⟨_, rfl⟩
  have HR := Lib.hid hr
  rw [hr]
  clear hr
  have HI := Lib.hid hin
  clear hin
  go_enter Try.func42, Try.ntmps42
  go_wp2_with fail
  refine (HI.out _).mono ?_
  rintro e w1 ⟨rfl, rfl⟩
  have hr := HR.out
  clear HR
  cases q with
  | false =>
    rw [Bool.false_and, Bool.false_and] at hr
    have HR := Lib.hid hr
    clear hr
    go_wp2_with fail
    go_ret
    rw [← HR.out]
    exact ⟨rfl, rfl⟩
  | true =>
    have hn0 := hq rfl
    have h00 : 0 < s.size := by omega
    have e0 : s.data.toList.getD 0 0 = s[0]'h00 := by
      simp [List.getD, h00]
      rfl
    obtain ⟨y, hy⟩ : ∃ y, s[0]'h00 = y := ⟨_, rfl⟩
    rw [e0, hy, Bool.true_and] at hr
    clear e0 HI hq
    by_cases hsm : smallC y = true
    · have hy1 : (97 : Int) ≤ y.toNat ∧ (y.toNat : Int) ≤ 122 := by
        simp only [smallC, Bool.and_eq_true, decide_eq_true_eq] at hsm
        omega
      have hy2 : ((y.toNat : Int) < 97) = False := by simp only [eq_iff_iff, iff_false]; omega
      have hy3 : ((122 : Int) < y.toNat) = False := by simp only [eq_iff_iff, iff_false]; omega
      rw [hsm, Bool.true_and] at hr
      have HR := Lib.hid hr
      clear hy1 hsm hr
      go_wp2_with fail
      clear hy2 hy3
      go_loop [3, 4, 5] (fun i _ _ => ∃ k : Nat, k ≤ n ∧ i = .int .i64 k ∧ (s.data.toList.take k).all nameC = true) (fun i _ _ => n - (intOf i).toNat)
      case atStart => exact ⟨0, Nat.zero_le _, rfl, rfl⟩
      case round =>
        obtain ⟨k, hk, rfl, hall⟩ := hrel
        by_cases hlt : k < n
        · have h0 : k < s.size := by omega
          obtain ⟨x, hx⟩ : ∃ x, s.data.toList[k]? = some x := ⟨_, List.getElem?_eq_getElem (by omega)⟩
          have hxx : s[k]'h0 = x := by
            rw [List.getElem?_eq_getElem (by omega)] at hx
            exact Option.some.inj hx
          have hk1 : (k : Int) < n := by omega
          have hk0 : (0 : Int) ≤ k := by omega
          have hwk : IntKind.i64.wrap ((k : Int) + 1) = k + 1 := wrapK _ (by omega) (by omega)
          have HX := Lib.hid hx
          have HALL := Lib.hid hall
          have hstep : nameC x = true → ∃ k' : Nat, k' ≤ n ∧ Value.int .i64 ((k : Int) + 1) = Value.int .i64 k' ∧ (s.data.toList.take k').all nameC = true := fun h => ⟨k + 1, by omega, by go_num, by rw [all_take hx, hall, h]; rfl⟩
          have hstop : nameC x = false → r = false := fun h => by rw [← HR.out, all_not hx h]
          have HS := Lib.hid hstep
          have HT := Lib.hid hstop
          clear hstep hstop hx hall
          have hmeas : n - (intOf (Value.int .i64 ((k : Int) + 1))).toNat < n - (intOf (Value.int .i64 (k : Int))).toNat := by simp [intOf]; omega
          have HM := Lib.hid hmeas
          clear hmeas
          have kinds : ((97 : Int) ≤ x.toNat ∧ (x.toNat : Int) ≤ 122) ∨ ((48 : Int) ≤ x.toNat ∧ (x.toNat : Int) ≤ 57) ∨ (x.toNat : Int) = 45 ∨ (x.toNat : Int) < 45 ∨ ((45 : Int) < x.toNat ∧ (x.toNat : Int) < 48) ∨ ((57 : Int) < x.toNat ∧ (x.toNat : Int) < 97) ∨ (122 : Int) < x.toNat := by omega
          have hc : ∀ P : Prop, [Decidable P] → P → (P = True) := fun P _ h => by simp [h]
          have hF : ∀ P : Prop, ¬ P → (P = False) := fun P h => by simp [h]
          rcases kinds with ⟨a1, a2⟩ | ⟨a1, a2⟩ | a1 | a1 | ⟨a1, a2⟩ | ⟨a1, a2⟩ | a1
          · have hname : nameC x = true := by unfold nameC smallC; simp; omega
            have f1 := hF ((x.toNat : Int) ≤ 57) (by omega)
            clear hc hF
            go_wp2_with fail
            exact ⟨HS.out hname, HM.out⟩
          · have hname : nameC x = true := by unfold nameC smallC; simp; omega
            have f1 := hF ((97 : Int) ≤ x.toNat) (by omega)
            clear hc hF
            go_wp2_with fail
            exact ⟨HS.out hname, HM.out⟩
          · have hname : nameC x = true := by unfold nameC smallC; simp; omega
            have f1 := hF ((97 : Int) ≤ x.toNat) (by omega)
            have f2 := hF ((48 : Int) ≤ x.toNat) (by omega)
            clear hc hF
            go_wp2_with fail
            exact ⟨HS.out hname, HM.out⟩
          · have hname : nameC x = false := by unfold nameC smallC; simp; omega
            have f1 := hF ((97 : Int) ≤ x.toNat) (by omega)
            have f2 := hF ((48 : Int) ≤ x.toNat) (by omega)
            have f3 := hF ((x.toNat : Int) = 45) (by omega)
            clear hc hF
            go_wp2_with fail
            go_ret
            rw [HT.out hname]
            exact ⟨rfl, rfl⟩
          · have hname : nameC x = false := by unfold nameC smallC; simp; omega
            have f1 := hF ((97 : Int) ≤ x.toNat) (by omega)
            have f2 := hF ((48 : Int) ≤ x.toNat) (by omega)
            have f3 := hF ((x.toNat : Int) = 45) (by omega)
            clear hc hF
            go_wp2_with fail
            go_ret
            rw [HT.out hname]
            exact ⟨rfl, rfl⟩
          · have hname : nameC x = false := by unfold nameC smallC; simp; omega
            have f1 := hF ((97 : Int) ≤ x.toNat) (by omega)
            have f2 : (48 : Int) ≤ x.toNat := by omega
            have f4 := hF ((x.toNat : Int) ≤ 57) (by omega)
            have f3 := hF ((x.toNat : Int) = 45) (by omega)
            clear hc hF
            go_wp2_with fail
            go_ret
            rw [HT.out hname]
            exact ⟨rfl, rfl⟩
          · have hname : nameC x = false := by unfold nameC smallC; simp; omega
            have f1 : (97 : Int) ≤ x.toNat := by omega
            have f5 := hF ((x.toNat : Int) ≤ 122) (by omega)
            have f2 : (48 : Int) ≤ x.toNat := by omega
            have f4 := hF ((x.toNat : Int) ≤ 57) (by omega)
            have f3 := hF ((x.toNat : Int) = 45) (by omega)
            clear hc hF
            go_wp2_with fail
            go_ret
            rw [HT.out hname]
            exact ⟨rfl, rfl⟩
        · obtain rfl : k = n := by omega
          have hkk : ((k : Int) < k) = False := by simp
          have hr := HR.out
          rw [List.take_of_length_le (by omega)] at hall
          rw [hall] at hr
          have HR := Lib.hid hr
          clear hr
          go_wp2_with fail
          go_ret
          rw [← HR.out]
          exact ⟨rfl, rfl⟩
    · have hf : smallC y = false := by simpa using hsm
      have hy1 : ¬ ((97 : Int) ≤ y.toNat ∧ (y.toNat : Int) ≤ 122) := by
        simp only [smallC, Bool.and_eq_true, decide_eq_true_eq] at hsm
        omega
      rw [hf, Bool.false_and] at hr
      have HR := Lib.hid hr
      clear hf hsm hr
      by_cases hlo : (y.toNat : Int) < 97
      · go_wp2_with fail
        go_ret
        rw [← HR.out]
        exact ⟨rfl, rfl⟩
      · have hy2 : ((y.toNat : Int) < 97) = False := by simp only [eq_iff_iff, iff_false]; omega
        have hhi : (122 : Int) < y.toNat := by omega
        clear hlo hy1
        go_wp2_with fail
        go_ret
        rw [← HR.out]
        exact ⟨rfl, rfl⟩
set_option maxRecDepth 100000 in
set_option maxHeartbeats 4000000 in
theorem rcheck_sh (s : Sd) (hk : s.key.size ≤ 1000) (hv : s.val.size ≤ 1000) (w : World) : Calls Try.prog 22 #[valSd s] w fun e w' => e = .returned (.bool (saidB s)) ∧ Below w.heap.size w w' := by
  have e1 : saidB s = (inB s.c 1 8 && (inB s.n 1 1000 && (inB s.back 0 (s.n - 1) && if s.key.size = 0 then decide (s.val.size = 0) && decide (s.time = 0) && decide (s.trust = 0) && decide (0 < s.back) else nameB s.key && (valueB s.val && (inB s.time 0 1073741824 && inB s.trust 0 1000))))) := by
    unfold saidB inB
    have e1 : ∀ (a b : Prop) [Decidable a] [Decidable b], decide (a ∧ b) = (decide a && decide b) := fun a b _ _ => by simp
    simp only [e1, Bool.and_assoc]
  have hemp : ∀ b : ByteArray, b.toList.isEmpty = decide (b.size = 0) := fun b => by
    rw [toList_data, Bool.eq_iff_iff, List.isEmpty_iff, decide_eq_true_eq]
    constructor
    · intro h
      have := congrArg List.length h
      simpa using this
    · intro h
      exact List.eq_nil_of_length_eq_zero (by simpa using h)
  have hwr : inB s.n 1 1000 = true → wrap64 (s.n - 1) = s.n - 1 := fun h => by
    simp only [inB, Bool.and_eq_true, decide_eq_true_eq] at h
    exact wrapId _ (by omega) (by omega)
  have hm := fun W => rvalue_sh s.val W hv
  have hn := fun W => rname_sh s.key W hk
  have hev : s.val.toList.isEmpty = decide (s.val.size = 0) := hemp _
  have hek : s.key.toList.isEmpty = decide (s.key.size = 0) := hemp _
  rw [e1]
  clear e1 hemp hk hv
  generalize valueB s.val = qv at *
  generalize nameB s.key = qn at *
  generalize decide (s.val.size = 0) = qe at *
  obtain ⟨c, n, key, val, time, trust, back⟩ := s
  dsimp only [valSd] at *
  have HM := Lib.hid hm
  have HN := Lib.hid hn
  have HR := Lib.hid hwr
  have HV := Lib.hid hev
  have HK := Lib.hid hek
  clear hm hn hwr hev hek
  have w1h := fun W => rin_sh c 1 8 W
  have w2h := fun W => rin_sh n 1 1000 W
  have w3h := fun W => rin_sh back 0 (n - 1) W
  have w4h := fun W => rtime_sh time W
  have w5h := fun W => rin_sh trust 0 1000 W
  go_enter Try.func22, Try.ntmps22
  go_wp2_with fail
  obtain ⟨W1, hW1⟩ : ∃ W, w.alloc (.cells #[.int .i64 c, .int .i64 n, .string key, .string val, .int .i64 time, .int .i64 trust, .int .i64 back] 38) = W := ⟨_, rfl⟩
  have hr : W1.heap[w.heap.size]? = some (.cells #[.int .i64 c, .int .i64 n, .string key, .string val, .int .i64 time, .int .i64 trust, .int .i64 back] 38 (0, 0)) := by
    rw [← hW1]
    exact heap_alloc_new w _
  have hb1 : Below w.heap.size w W1 := by
    rw [← hW1]
    exact (Below.refl _ _).alloc (Nat.le_refl _) _
  rw [hW1]
  clear hW1
  obtain ⟨B, hB⟩ : ∃ B, w.heap.size = B := ⟨_, rfl⟩
  rw [hB] at hr hb1 ⊢
  have hl : B < W1.heap.size := (Array.getElem?_eq_some_iff.1 hr).1
  have c0 : W1.cell? ⟨B, 0, none⟩ = some (.int .i64 c) := by simp [World.cell?, hr]
  have c1 : W1.cell? ⟨B, 1, none⟩ = some (.int .i64 n) := by simp [World.cell?, hr]
  have c2 : W1.cell? ⟨B, 2, none⟩ = some (.string key) := by simp [World.cell?, hr]
  have c3 : W1.cell? ⟨B, 3, none⟩ = some (.string val) := by simp [World.cell?, hr]
  have c4 : W1.cell? ⟨B, 4, none⟩ = some (.int .i64 time) := by simp [World.cell?, hr]
  have c5 : W1.cell? ⟨B, 5, none⟩ = some (.int .i64 trust) := by simp [World.cell?, hr]
  have c6 : W1.cell? ⟨B, 6, none⟩ = some (.int .i64 back) := by simp [World.cell?, hr]
  refine (w1h _).mono ?_
  rintro e w1 ⟨rfl, rfl⟩
  cases q1 : inB c 1 8 with
  | false =>
    go_wp2_with fail
    all_goals
      go_ret
      try rw [hB]
      refine ⟨retOf (congrArg Value.bool ?_), hb1⟩
      first
        | rfl
        | simp [*]
        | simp_all
  | true =>
    go_wp2_with fail
    refine (w2h _).mono ?_
    rintro e w1 ⟨rfl, rfl⟩
    cases q2 : inB n 1 1000 with
    | false =>
      go_wp2_with fail
      all_goals
        go_ret
        try rw [hB]
        refine ⟨retOf (congrArg Value.bool ?_), hb1⟩
        first
          | rfl
          | simp [*]
          | simp_all
    | true =>
      have hwr := HR.out q2
      go_wp2_with fail
      refine (w3h _).mono ?_
      rintro e w1 ⟨rfl, rfl⟩
      cases q3 : inB back 0 (n - 1) with
      | false =>
        go_wp2_with fail
        all_goals
          go_ret
          try rw [hB]
          refine ⟨retOf (congrArg Value.bool ?_), hb1⟩
          first
            | rfl
            | simp [*]
            | simp_all
      | true =>
        by_cases hk0 : key.size = 0
        · have hk1 : key.toList.isEmpty = true := by rw [HK.out, decide_eq_true hk0]
          have hv1 := HV.out
          cases qe
          · go_wp2_with fail
            all_goals
              go_ret
              try rw [hB]
              refine ⟨retOf (congrArg Value.bool ?_), hb1⟩
              first
                | rfl
                | simp [*]
                | simp_all
          · go_wp2_with fail
            all_goals
              go_ret
              try rw [hB]
              refine ⟨retOf (congrArg Value.bool ?_), hb1⟩
              first
                | rfl
                | simp [*]
                | simp_all
        · have hk1 : key.toList.isEmpty = false := by rw [HK.out, decide_eq_false hk0]
          go_wp2_with fail
          refine (HN.out _).mono ?_
          rintro e w2 ⟨rfl, rfl⟩
          cases qn with
          | false =>
            go_wp2_with fail
            all_goals
              go_ret
              try rw [hB]
              refine ⟨retOf (congrArg Value.bool ?_), hb1⟩
              first
                | rfl
                | simp [*]
                | simp_all
          | true =>
            go_wp2_with fail
            refine (HM.out _).mono ?_
            rintro e w2 ⟨rfl, rfl⟩
            cases qv with
            | false =>
              go_wp2_with fail
              all_goals
                go_ret
                try rw [hB]
                refine ⟨retOf (congrArg Value.bool ?_), hb1⟩
                first
                  | rfl
                  | simp [*]
                  | simp_all
            | true =>
              go_wp2_with fail
              refine (w4h _).mono ?_
              rintro e w4 ⟨rfl, rfl⟩
              cases q4 : inB time 0 1073741824 with
              | false =>
                go_wp2_with fail
                all_goals
                  go_ret
                  try rw [hB]
                  refine ⟨retOf (congrArg Value.bool ?_), hb1⟩
                  first
                    | rfl
                    | simp [*]
                    | simp_all
              | true =>
                go_wp2_with fail
                refine (w5h _).mono ?_
                rintro e w4 ⟨rfl, rfl⟩
                cases q5 : inB trust 0 1000 <;> go_wp2_with fail
                all_goals
                  go_ret
                  try rw [hB]
                  refine ⟨retOf (congrArg Value.bool ?_), hb1⟩
                  first
                    | rfl
                    | simp [*]
                    | simp_all
end Go.Proofs.Ytngigogaiheckaa
