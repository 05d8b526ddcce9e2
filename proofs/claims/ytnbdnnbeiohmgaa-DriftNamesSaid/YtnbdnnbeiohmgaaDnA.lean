/- drift: the small functions. -/
import Derived.Test.YtnbdnnbeiohmgaaGrE
namespace Go.Proofs.Ytnbdnnbeiohmgaa
open Go.RowKit Go.Shelf Go.Lib
attribute [local go_sem] Oper.semAt_some

set_option maxRecDepth 100000 in
theorem within_dn (n a b : Int) (w : World) : Calls Try.prog 96 #[.int .i64 n, .int .i64 a, .int .i64 b] w fun e w' => e = .returned (.bool (inB n a b)) ∧ w = w' := by
  go_enter Try.func96, Try.ntmps96
  go_wp2
  · go_ret
    have h : a ≤ n := by assumption
    exact ⟨by simp [inB, h], rfl⟩
  · go_ret
    have h : n < a := by assumption
    have h' : ¬ a ≤ n := by omega
    exact ⟨by simp [inB, h'], rfl⟩

set_option maxRecDepth 100000 in
theorem plus_dn (a b c d : Int) (w : World) : Calls Try.prog 135 #[.agg #[.int .i64 a, .int .i64 b], .agg #[.int .i64 c, .int .i64 d]] w fun e w' => e = .returned (.agg #[.int .i64 (wrap64 (a + c)), .int .i64 (wrap64 (b + d))]) ∧ Below w.heap.size w w' := by
  go_enter Try.func135, Try.ntmps135
  go_wp2_with fail
  refine bodyPost_ret (v := .agg #[.int .i64 (wrap64 (a + c)), .int .i64 (wrap64 (b + d))]) (by simp [results, Try.results135, go_sem]) rfl ⟨rfl, ?_⟩
  exact (((Below.refl _ _).alloc (Nat.le_refl _) _).alloc (by simp) _).alloc (by simp; omega) _

set_option maxRecDepth 100000 in
theorem minus_dn (a b c d : Int) (w : World) : Calls Try.prog 136 #[.agg #[.int .i64 a, .int .i64 b], .agg #[.int .i64 c, .int .i64 d]] w fun e w' => e = .returned (.agg #[.int .i64 (wrap64 (a - d)), .int .i64 (wrap64 (b - c))]) ∧ Below w.heap.size w w' := by
  go_enter Try.func136, Try.ntmps136
  go_wp2_with fail
  refine bodyPost_ret (v := .agg #[.int .i64 (wrap64 (a - d)), .int .i64 (wrap64 (b - c))]) (by simp [results, Try.results136, go_sem]) rfl ⟨rfl, ?_⟩
  exact (((Below.refl _ _).alloc (Nat.le_refl _) _).alloc (by simp) _).alloc (by simp; omega) _

set_option maxRecDepth 100000 in
theorem times_dn (a b c d : Int) (w : World) : Calls Try.prog 134 #[.agg #[.int .i64 a, .int .i64 b], .agg #[.int .i64 c, .int .i64 d]] w fun e w' => e = .returned (.agg #[.int .i64 (min (wrap64 (a * c)) (wrap64 (a * d))), .int .i64 (max (wrap64 (b * c)) (wrap64 (b * d)))]) ∧ Below w.heap.size w w' := by
  obtain ⟨x1, e1⟩ : ∃ x, wrap64 (a * c) = x := ⟨_, rfl⟩
  obtain ⟨x2, e2⟩ : ∃ x, wrap64 (a * d) = x := ⟨_, rfl⟩
  obtain ⟨x3, e3⟩ : ∃ x, wrap64 (b * c) = x := ⟨_, rfl⟩
  obtain ⟨x4, e4⟩ : ∃ x, wrap64 (b * d) = x := ⟨_, rfl⟩
  rw [e1, e2, e3, e4]
  go_enter Try.func134, Try.ntmps134
  go_wp2_with fail
  refine bodyPost_ret (v := .agg #[.int .i64 (min x1 x2), .int .i64 (max x3 x4)]) (by simp [results, Try.results134, go_sem]) rfl ⟨rfl, ?_⟩
  exact (((Below.refl _ _).alloc (Nat.le_refl _) _).alloc (by simp) _).alloc (by simp; omega) _

set_option maxRecDepth 100000 in
theorem floor_dn (n : Int) (w : World) (h : -1000000000000 ≤ n ∧ n ≤ 1000000000000) : Calls Try.prog 137 #[.int .i64 n] w fun e w' => e = .returned (.int .i64 (n / 1000000)) ∧ w = w' := by
  go_enter Try.func137, Try.ntmps137
  go_wp2
  · go_ret
    have h' : n < 0 := by assumption
    have e : -((999999 - n) / 1000000) = n / 1000000 := by omega
    rw [e]
    exact ⟨rfl, rfl⟩
  · go_ret
    exact ⟨rfl, rfl⟩

set_option maxRecDepth 100000 in
theorem still_dn (a b c d : Int) (w : World) : Calls Try.prog 142 #[.agg #[.int .i64 a, .int .i64 b, .int .i64 c, .int .i64 d]] w fun e w' => e = .returned (.agg #[.int .i64 (min 0 a), .int .i64 (min 0 b), .int .i64 (max 0 c), .int .i64 (max 0 d)]) ∧ Below w.heap.size w w' := by
  go_enter Try.func142, Try.ntmps142
  go_wp2_with fail
  refine bodyPost_ret (v := .agg #[.int .i64 (min 0 a), .int .i64 (min 0 b), .int .i64 (max 0 c), .int .i64 (max 0 d)]) (by simp [results, Try.results142, go_sem]) rfl ⟨rfl, ?_⟩
  exact ((Below.refl _ _).alloc (Nat.le_refl _) _).alloc (by simp) _

set_option maxRecDepth 100000 in
theorem of_dn (t : Int) (o : Bool) (A1 A2 A3 : Option Addr) (n1 n2 n3 c1 c2 c3 : Nat) (w : World) : Calls Try.prog 138 #[.agg #[.int .i64 t, .slice A1 n1 c1, .slice A2 n2 c2, .slice A3 n3 c3, .bool o]] w fun e w' => e = .returned (.agg #[.slice A1 n1 c1, .slice A2 n2 c2, .slice A3 n3 c3]) ∧ Below w.heap.size w w' := by
  go_enter Try.func138, Try.ntmps138
  go_wp2_with fail
  refine bodyPost_ret (v := .agg #[.slice A1 n1 c1, .slice A2 n2 c2, .slice A3 n3 c3]) (by simp [results, Try.results138, go_sem]) rfl ⟨rfl, ?_⟩
  exact ((Below.refl _ _).alloc (Nat.le_refl _) _).alloc (by simp) _

set_option maxRecDepth 100000 in
theorem patch_dn (t : Int) (o : Bool) (A1 A2 A3 : Option Addr) (n1 n2 n3 c1 c2 c3 : Nat) (w : World) : Calls Try.prog 146 #[.agg #[.slice A1 n1 c1, .slice A2 n2 c2, .slice A3 n3 c3], .int .i64 t, .bool o] w fun e w' => e = .returned (.agg #[.int .i64 t, .slice A1 n1 c1, .slice A2 n2 c2, .slice A3 n3 c3, .bool o]) ∧ Below w.heap.size w w' := by
  go_enter Try.func146, Try.ntmps146
  go_wp2_with fail
  refine bodyPost_ret (v := .agg #[.int .i64 t, .slice A1 n1 c1, .slice A2 n2 c2, .slice A3 n3 c3, .bool o]) (by simp [results, Try.results146, go_sem]) rfl ⟨rfl, ?_⟩
  exact ((Below.refl _ _).alloc (Nat.le_refl _) _).alloc (by simp) _

/-- cressetlaw04.at -/
theorem at4_dn (x y : Int) (w : World) (hx : -9223372036854775808 ≤ x + 1 ∧ x + 1 ≤ 9223372036854775807) : Calls Try.prog 46 #[.int .i64 x, .int .i64 y] w fun e w' => (∃ b, e = .returned (.slice (some ⟨b, 0, none⟩) 1 1) ∧ Runs w' (.slice (some ⟨b, 0, none⟩) 1 1) [(y, x, x + 1)]) ∧ Below w.heap.size w w' := by
  have e1 : wrap64 (x + 1) = x + 1 := wrapId _ (by omega) (by omega)
  have hlit := Lst_lit encR_len w w.heap.size 1 rfl #[.int .i64 y, .int .i64 x, .int .i64 (x + 1)] [(y, x, x + 1)] 72 rfl rfl (by unfold maxLen; omega)
  have HL := Lib.hid hlit
  clear hlit
  go_enter Try.func46, Try.ntmps46
  go_wp2_with fail
  go_ret
  exact ⟨⟨_, rfl, HL.out⟩, (Below.refl _ _).alloc (Nat.le_refl _) _⟩

set_option maxRecDepth 100000 in
theorem checkDrifter_dn (w : World) : Calls Try.prog 132 #[.agg #[.int .i64 20, .int .i64 20, .int .i64 10, .int .i64 20, .bool false]] w fun e w' => e = .returned (.int .i64 0) ∧ Below w.heap.size w w' := by
  go_enter Try.func132, Try.ntmps132
  go_wp2_with fail
  refine (within_dn _ _ _ _).mono ?_
  rintro e w1 ⟨rfl, rfl⟩
  rw [show inB 20 0 20 = true by decide]
  go_wp2_with fail
  refine (within_dn _ _ _ _).mono ?_
  rintro e w1 ⟨rfl, rfl⟩
  rw [show inB 10 0 20 = true by decide]
  go_wp2_with fail
  go_ret
  exact ⟨rfl, (Below.refl _ _).alloc (Nat.le_refl _) _⟩

set_option maxRecDepth 100000 in
/-- drift.checkFlow$1: the speeds of the bay's flows are ordered -/
theorem ordered_dn (s : Int) (w : World) (h : inB s (-100000) s = true) (h' : s ≤ 100000) : Calls Try.prog 175 #[.int .i64 s, .int .i64 s] w fun e w' => e = .returned (.bool true) ∧ w = w' := by
  go_enter Try.func175, Try.ntmps175
  go_wp2_with fail
  refine (within_dn _ _ _ _).mono ?_
  rintro e w1 ⟨rfl, rfl⟩
  rw [h]
  go_wp2_with fail
  go_ret
  exact ⟨rfl, rfl⟩
end Go.Proofs.Ytnbdnnbeiohmgaa
