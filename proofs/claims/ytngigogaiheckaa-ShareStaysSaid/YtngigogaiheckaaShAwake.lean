/- share: awake answers true. -/
import Derived.Test.YtngigogaiheckaaShTwo
namespace Go.Proofs.Ytngigogaiheckaa
open Go.RowKit Go.Shelf Go.Lib Go.Maps

theorem oks_of {l : List Sd} (h : (l.all fun s => saidB s) = true) : ∀ s, s ∈ l → SdOK s := fun s hs => SdOK.of (List.all_eq_true.1 h s hs)
theorem says_of {l : List Sd} (h : (l.all fun s => saidB s) = true) : ∀ s, s ∈ l → saidB s = true := fun s hs => List.all_eq_true.1 h s hs
theorem nums_all {l : List Sd} (h : (l.all fun s => saidB s) = true) : Nums l := nums_of (says_of h)
theorem same_of {l m : List Sd} (h : (l.all fun a => (m ++ l).all fun b => !(decide (a.c = b.c) && decide (a.n = b.n)) || decide (a = b)) = true) : ∀ s, s ∈ l → ∀ t, t ∈ m ∨ t ∈ l → sameP s t → s = t := fun a ha b hb e => by
  have h1 := List.all_eq_true.1 (List.all_eq_true.1 h a ha) b (List.mem_append.2 hb)
  rw [e.1, e.2] at h1
  simpa using h1
theorem knows_b1 : vecOK (vecI (knF [sB1])) = true := by decide
theorem knows_b2 : vecOK (vecI (knF [sB1, sA1])) = true := by decide
theorem knows_at : vecOK [1, 1, 0, 0, 0, 0, 0, 0] = true := by decide
theorem knows_le : ∀ c, c < 8 → vecN [1, 1, 0, 0, 0, 0, 0, 0] c ≤ knF [sB1, sA1, sA2] c := by decide
set_option maxRecDepth 100000 in
set_option maxHeartbeats 4000000 in
theorem awake_sh (w : World) : Calls Try.prog 9 #[] w fun e w' => e = .returned (.bool true) ∧ Below w.heap.size w w' := by
  go_enter Try.func9, Try.ntmps9
  go_wp2_with fail
  refine (new_sh 1 (by decide) w).mono ?_
  rintro e w1 ⟨a, rfl, hpa, hba⟩
  go_wp2_with fail
  refine (new_sh 2 (by decide) w1).mono ?_
  rintro e w2 ⟨b, rfl, hpb, hbb⟩
  have hT := Two.start w hpa hba hpb hbb
  have h1 := hT.say1 (fun s hs => by cases hs) (by simp) tA1 (by rw [awk_a1]; exact awk_ok1)
  rw [awk_a1] at h1
  clear hpa hba hpb hbb hT
  go_wp2_with fail
  refine h1.mono ?_
  rintro e w3 ⟨rfl, ⟨Fa, Fb, hT⟩, -⟩
  have h2 := hT.say2 (fun s hs => by cases hs) (by simp) tB1 (by rw [awk_b1]; exact awk_ok2)
  rw [awk_b1] at h2
  clear h1 hT
  go_wp2_with fail
  refine h2.mono ?_
  rintro e w4 ⟨rfl, ⟨Fa, Fb, hT⟩, -⟩
  clear h2
  simp only [List.nil_append] at hT
  have hk := known_sh w4 hT.2.1 (by simp)
  go_wp2_with fail
  refine hk.mono ?_
  rintro e w5 ⟨v1, rfl, hv1, hb5⟩
  clear hk
  have hT := hT.on hb5
  have hl1 := Lst_of_own encI_len (l := vecI (knF [sB1])) hv1 rfl
  have hsi := since_sh w5 hT.1 (by simp) (nums_all (by decide)) v1 _ hl1 knows_b1
  rw [awk_s1] at hsi
  go_wp2_with fail
  refine hsi.mono ?_
  rintro e w6 ⟨x1, rfl, hx1, hb6⟩
  have hT := hT.on hb6
  have htk := hT.take2 (Lst_of_own encSd_len hx1 rfl) (nums_all (by decide)) (says_of (by decide)) (same_of (by decide)) (by simp)
  rw [awk_f1] at htk
  simp only [List.length_cons, List.length_nil, Nat.zero_add] at htk
  clear hsi hx1 hl1 hv1
  go_wp2_with fail
  refine htk.mono ?_
  rintro e w7 ⟨rfl, ⟨Fa, Fb, hT⟩, -⟩
  simp only [List.cons_append, List.nil_append] at hT
  have hsh := showAll_sh w7 hT.2.1 (by simp) (oks_of (by decide))
  rw [awk_l1] at hsh
  clear htk
  go_wp2_with fail
  refine hsh.mono ?_
  rintro e w8 ⟨r1, out1, rfl, hr1, hs1, hb8⟩
  have e1 := Shows.uniq awk_u1 hs1 awk_w1
  subst e1
  have hT := hT.hold hb8
  have hK1 : ∀ x, r1.ownBlock = some x → (fun x => False ∨ (w7.heap.size ≤ x ∧ x < w8.heap.size)) x := fun x e => .inr (ownBlock_lt hr1 e)
  obtain ⟨K, hK⟩ : ∃ K : Nat → Prop, (fun x => False ∨ (w7.heap.size ≤ x ∧ x < w8.heap.size)) = K := ⟨_, rfl⟩
  rw [hK] at hT hK1
  clear hsh hs1 hb8 hK
  have h3 := hT.say1 (nums_all (by decide)) (by simp) tA2 (by rw [awk_a2]; exact awk_ok3)
  rw [awk_a2] at h3
  go_wp2_with fail
  refine h3.mono ?_
  rintro e w9 ⟨rfl, ⟨Fa, Fb, hT⟩, hkk⟩
  have hr1 := Two.rowK hr1 hkk hK1
  simp only [List.cons_append, List.nil_append] at hT
  have hk := known_sh w9 hT.2.1 (by simp)
  clear h3 hkk
  go_wp2_with fail
  refine hk.mono ?_
  rintro e w10 ⟨v2, rfl, hv2, hb10⟩
  clear hk
  have hT := hT.on hb10
  have hr1 := ownsBelow hr1 hb10
  have hl2 := Lst_of_own encI_len (l := vecI (knF [sB1, sA1])) hv2 rfl
  have hsi := since_sh w10 hT.1 (by simp) (nums_all (by decide)) v2 _ hl2 knows_b2
  rw [awk_s2] at hsi
  go_wp2_with fail
  refine hsi.mono ?_
  rintro e w11 ⟨x2, rfl, hx2, hb11⟩
  have hT := hT.on hb11
  have hr1 := ownsBelow hr1 hb11
  have htk := hT.take2 (Lst_of_own encSd_len hx2 rfl) (nums_all (by decide)) (says_of (by decide)) (same_of (by decide)) (by simp)
  rw [awk_f2] at htk
  simp only [List.length_cons, List.length_nil, Nat.zero_add] at htk
  clear hsi hx2 hl2 hv2
  go_wp2_with fail
  refine htk.mono ?_
  rintro e w12 ⟨rfl, ⟨Fa, Fb, hT⟩, hkk⟩
  have hr1 := Two.rowK hr1 hkk hK1
  simp only [List.cons_append, List.nil_append] at hT
  have hsh := showAll_sh w12 hT.2.1 (by simp) (oks_of (by decide))
  rw [awk_l2] at hsh
  clear htk hkk
  go_wp2_with fail
  refine hsh.mono ?_
  rintro e w13 ⟨r2, out2, rfl, hr2, hs2, hb13⟩
  have e2 := Shows.uniq awk_u2 hs2 awk_w2
  subst e2
  have hT := hT.on hb13
  have hr1 := ownsBelow hr1 hb13
  clear hsh hs2
  go_upto_region 14 with fail
  have hba := (Below.refl w13.heap.size w13).alloc (Nat.le_refl _) (.cells #[.int .i64 1, .int .i64 1, .int .i64 0, .int .i64 0, .int .i64 0, .int .i64 0, .int .i64 0, .int .i64 0] 3)
  have hlit := Lst_lit encI_len w13 w13.heap.size 8 rfl #[.int .i64 1, .int .i64 1, .int .i64 0, .int .i64 0, .int .i64 0, .int .i64 0, .int .i64 0, .int .i64 0] [1, 1, 0, 0, 0, 0, 0, 0] 3 rfl rfl (by unfold maxLen; omega)
  have hT := hT.on hba
  have hat := at_sh _ hT.2.1 (by simp) (oks_of (by decide)) _ _ hlit knows_at knows_le
  rw [awk_l3] at hat
  have hr1 := ownsBelow hr1 hba
  have hr2 := ownsBelow hr2 hba
  go_wp2_with fail
  refine hat.mono ?_
  rintro e w14 ⟨r3, out3, rfl, hr3, hs3, hb14⟩
  have e3 := Shows.uniq awk_u1 hs3 awk_w1
  subst e3
  have hT := hT.on hb14
  have hr1 := ownsBelow hr1 hb14
  have hr2 := ownsBelow hr2 hb14
  obtain ⟨g1, c1, rfl, -, hg1⟩ := hr1.form (by simp)
  obtain ⟨g2, c2, rfl, -, hg2⟩ := hr2.form (by simp)
  have hc1 := hr1.cells (g := g1) rfl
  have hc2 := hr2.cells (g := g2) rfl
  have hsw := shows_sh _ _ [(sA1, 1)] [(sA1, 1)] w14 (Lst_of_own encW_len hr3 rfl) (Lst_of_own encW_len hr1 rfl)
  have q1 : w14.cell? ⟨g1, 3, none⟩ = some (.string ⟨#[115, 101, 101, 110]⟩) := by
    have := hc1 3 _ rfl
    rwa [add_pl, Nat.zero_add] at this
  have q2 : w14.cell? ⟨g1, 7, none⟩ = some (.int .i64 1) := by
    have := hc1 7 _ rfl
    rwa [add_pl, Nat.zero_add] at this
  have q3 : w14.cell? ⟨g2, 3, none⟩ = some (.string ⟨#[108, 111, 115, 116]⟩) := by
    have := hc2 3 _ rfl
    rwa [add_pl, Nat.zero_add] at this
  have q4 : w14.cell? ⟨g2, 7, none⟩ = some (.int .i64 0) := by
    have := hc2 7 _ rfl
    rwa [add_pl, Nat.zero_add] at this
  clear hat hs3 hlit
  simp only [List.length_cons, List.length_nil, Nat.zero_add]
  go_wp2_with fail
  refine hsw.mono ?_
  rintro e w15 ⟨rfl, hb15⟩
  go_wp2_with fail
  go_ret
  exact ⟨rfl, hT.below.trans (hb15.mono hT.below.size)⟩
end Go.Proofs.Ytngigogaiheckaa
