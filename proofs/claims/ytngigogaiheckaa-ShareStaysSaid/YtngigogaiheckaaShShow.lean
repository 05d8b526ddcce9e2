/- share: show. -/
import Derived.StillTailTactics
import Derived.Lib.AppendZeros
import Derived.Sort.CutIn
import Derived.Test.YtngigogaiheckaaShBy
namespace Go.Proofs.Ytngigogaiheckaa
open Go.RowKit Go.Lib Go.Maps Go.Shelf
attribute [local go_sem] Oper.semAt_some

def encW (x : Sd × Int) : List Value := encSd x.1 ++ [.int .i64 x.2]
theorem encW_len (x : Sd × Int) : (encW x).length = 8 := rfl
/-- what the map of those taken back gives -/
def backF (pre : List Sd) : Int × Int → Option Value := fun q => if (pre.any fun s => decide (s.c - 1 = q.1) && decide (s.back = q.2)) then some (.bool true) else none
theorem backF_nil : backF [] = fun _ => none := rfl
theorem backF_snoc (pre : List Sd) (x : Sd) : putF (backF pre) (x.c - 1, x.back) (.bool true) = backF (pre ++ [x]) := by
  funext q
  obtain ⟨a, b⟩ := q
  unfold putF backF
  rw [List.any_append]
  by_cases h : (a, b) = (x.c - 1, x.back)
  · cases h
    simp
  · rw [if_neg h]
    have : (decide (x.c - 1 = a) && decide (x.back = b)) = false := by
      rw [Bool.and_eq_false_iff, decide_eq_false_iff_not, decide_eq_false_iff_not]
      by_cases h1 : x.c - 1 = a
      · exact .inr fun h2 => h (by rw [h1, h2])
      · exact .inl h1
    simp only [List.any_cons, List.any_nil, Bool.or_false, this]
theorem backF_at (L : List Sd) (x : Sd) : (backF L (x.c - 1, x.n)).getD (.bool false) = .bool (backed L x) := by
  unfold backF backed
  have e : (L.any fun s => decide (s.c - 1 = x.c - 1) && decide (s.back = x.n)) = L.any fun t => decide (t.c = x.c) && decide (t.back = x.n) := by
    congr 1
    funext s
    congr 1
    exact decide_eq_decide.2 ⟨fun h => by omega, fun h => by omega⟩
  dsimp only
  rw [e]
  split <;> rename_i h <;> simp [h]
/-- the statements of a list -/
def svals (l : List { s : Sd // SdOK s }) : List Sd := l.map (·.1)
theorem svals_snoc (l : List { s : Sd // SdOK s }) (x : { s : Sd // SdOK s }) : svals (l ++ [x]) = svals l ++ [x.1] := by simp [svals]
theorem svals_len (l : List { s : Sd // SdOK s }) : (svals l).length = l.length := by simp [svals]
theorem extOwn {β : Type} {S : Nat → Prop} {W : World} : OwnFrom W.heap.size (fun (_ : β) W' => Ext S W W') := fun _ X Y row hs hg hr =>
  ⟨hg.os.trans hs.os, hg.tape.trans hs.tape, hg.output.trans hs.output, Nat.le_trans hs.size hg.size, fun b hb hS => (hg.block b (Nat.lt_of_lt_of_le hb hs.size) (fun e => by have := (hr b e.symm).1; omega)).trans (hs.block b hb hS)⟩
theorem mapOwn {κ β : Type} {M : MK κ} {m B : Nat} (hm : m < B) (c : β → Nat) (f : β → κ → Option Value) : OwnFrom B (fun (s : β) W => ∃ n, n ≤ c s ∧ MapAt M W m n (f s)) := fun _ X Y row ⟨n, h1, h2⟩ hg hr =>
  ⟨n, h1, h2.grown hg (fun e => by have := (hr m e.symm).1; omega)⟩
theorem Ext.cell {S : Nat → Prop} {W W' : World} (h : Ext S W W') {a : Addr} (ha : a.block < W.heap.size) (hS : ¬ S a.block) : W'.cell? a = W.cell? a := World.cell?_of_block (h.block _ ha hS)
theorem ext_pre {S : Nat → Prop} {w W W' : World} {n₀ : Nat} (hb : Below n₀ w W) (h : Ext S W W') (hn : n₀ ≤ W.heap.size) (hS : ∀ b, S b → n₀ ≤ b) : Below n₀ w W' :=
  ⟨h.os.trans hb.os, h.tape.trans hb.tape, h.output.trans hb.output, Nat.le_trans hb.size h.size, fun k hk => (h.block k (by omega) (fun e => by have := hS k e; omega)).trans (hb.block k hk)⟩
theorem infoStr : (Try.prog.info? 9).map (fun i => (i.zero, i.size, i.bytes)) = some (some (.string ⟨#[]⟩), 1, 16) := by kernel_rfl
theorem infoW : (Try.prog.info? 44).map (fun i => (i.zero, i.size, i.bytes)) = some (some (.agg #[.int .i64 0, .int .i64 0, .string ⟨#[]⟩, .string ⟨#[]⟩, .int .i64 0, .int .i64 0, .int .i64 0, .int .i64 0]), 8, 80) := by kernel_rfl
/-- what the map of values gives -/
def valF (vs : List ByteArray) : ByteArray → Option Value := fun x => if (vs.any fun v => decide (v = x)) then some (.bool true) else none
theorem valF_old {vs : List ByteArray} {x : ByteArray} (h : x ∈ vs) : putF (valF vs) x (.bool true) = valF vs := by
  funext y
  unfold putF valF
  by_cases e : y = x
  · rw [if_pos e, e, if_pos (any_eq.2 h)]
  · rw [if_neg e]
theorem valF_new {vs : List ByteArray} {x : ByteArray} : putF (valF vs) x (.bool true) = valF (vs ++ [x]) := by
  funext y
  unfold putF valF
  by_cases e : y = x
  · rw [if_pos e, e, if_pos (any_eq.2 (by simp))]
  · rw [if_neg e]
    by_cases h : y ∈ vs
    · rw [if_pos (any_eq.2 h), if_pos (any_eq.2 (by simp [h]))]
    · rw [if_neg (fun h1 => h (any_eq.1 h1)), if_neg (fun h1 => by have := any_eq.1 h1; simp [h, e] at this)]
theorem valF_some {vs : List ByteArray} {x : ByteArray} : (valF vs x).isSome = true ↔ x ∈ vs := by
  unfold valF
  rw [← any_eq]
  split <;> rename_i h <;> simp [h]
/-- what the second loop keeps -/
def ByInv (W : World) (Q : Nat) (L pre : List Sd) : Prop := ∃ nb f vks ks, nb ≤ pre.length ∧ MapAt byK W Q nb f ∧ ByAt W (Q + 6) L pre f vks ks ∧ Boxed W (Q + 2) 92 vks ∧ KeysAt L pre ks
theorem Ext.grownNew {F : Nat → Prop} {w w1 w2 : World} {row : Option Nat} (h : Ext F w w1) (hg : w1.grownBy w2 row) (hr : ∀ r, row = some r → F r ∨ w.heap.size ≤ r) : Ext F w w2 :=
  ⟨hg.os.trans h.os, hg.tape.trans h.tape, hg.output.trans h.output, Nat.le_trans h.size hg.size, fun k hk hf => (hg.block k (Nat.lt_of_lt_of_le hk h.size) (fun e => (hr k e.symm).elim hf (fun h => by omega))).trans (h.block k hk hf)⟩
theorem kpb_of {S : Nat → Prop} {w5 W W' : World} {n₀ B : Nat} (h : Ext S w5 W) (h' : Ext S w5 W') (hs : W.heap.size ≤ W'.heap.size) (hn : n₀ ≤ w5.heap.size) (hB : B + 3 ≤ w5.heap.size) (hS : ∀ b, S b → n₀ ≤ b ∧ b < B) : KpB n₀ B W W' :=
  ⟨⟨h'.os.trans h.os.symm, h'.tape.trans h.tape.symm, h'.output.trans h.output.symm, hs, fun k hk => (h'.block k (by omega) (fun e => by have := hS k e; omega)).trans (h.block k (by omega) (fun e => by have := hS k e; omega)).symm⟩, fun k h1 h2 _ => (h'.block k (by omega) (fun e => by have := hS k e; omega)).trans (h.block k (by omega) (fun e => by have := hS k e; omega)).symm⟩
set_option maxRecDepth 100000 in
set_option maxHeartbeats 4000000 in
theorem show_sh (w : World) {F : Nat → Prop} {p m : Nat} {va vk : Value} {cen : Int} {arr : List Sd} (h : PicAt w F p m va vk cen arr) (u : Nat → Nat) (hu8 : ∀ c, c < 8 → u c ≤ 1000) (L : List Sd) (hL : betw arr (fun _ => 0) u 8 = L) (hok : ∀ s, s ∈ L → SdOK s) :
    Calls Try.prog 31 #[.pointer (some ⟨p, 0, none⟩), valV u] w fun e w' => ∃ v out, e = .returned v ∧ w'.ownsRow w.heap.size 44 8 v out.length (flatE encW out) ∧ Shows L out ∧ Below w.heap.size w w' := by
  have hlt := h.lt
  have hmlt := h.mp.lt
  have HC1 := Lib.hid h.c1
  have HMP := Lib.hid h.mp
  have HOK := Lib.hid hok
  clear h hok
  have hmm := @run_makeMap Try.prog
  have hlen8 : L.length ≤ 8000 := by rw [← hL]; exact betw_len8 arr _ u hu8 8 (Nat.le_refl _)
  dsimp only [valV]
  refine (callsIn_wide (n := 9)).1 (callsIn_of_wp_marks Try.func31 rfl trivial ?_ rfl)
  simp only [Try.ntmps31, List.size_toArray, List.length_cons, List.length_nil, Nat.reduceAdd, Nat.reduceSub, Array.replicate_succ, Array.replicate_zero, List.push_toArray, List.append_toArray, List.nil_append, List.cons_append]
  refine wpIn_wide.2 ?_
  go_upto_region 2 with fail
  -- the box of the vector, the map of those taken back, its box
  obtain ⟨w1, hw1⟩ : ∃ W, w.alloc (.cells #[.int .i64 (u 0), .int .i64 (u 1), .int .i64 (u 2), .int .i64 (u 3), .int .i64 (u 4), .int .i64 (u 5), .int .i64 (u 6), .int .i64 (u 7)] 62) = W := ⟨_, rfl⟩
  have e1 := heap_alloc_new w (.cells #[.int .i64 (u 0), .int .i64 (u 1), .int .i64 (u 2), .int .i64 (u 3), .int .i64 (u 4), .int .i64 (u 5), .int .i64 (u 6), .int .i64 (u 7)] 62)
  have s1 := size_alloc' w (.cells #[.int .i64 (u 0), .int .i64 (u 1), .int .i64 (u 2), .int .i64 (u 3), .int .i64 (u 4), .int .i64 (u 5), .int .i64 (u 6), .int .i64 (u 7)] 62)
  have b1 := (Below.refl w.heap.size w).alloc (Nat.le_refl _) (.cells #[.int .i64 (u 0), .int .i64 (u 1), .int .i64 (u 2), .int .i64 (u 3), .int .i64 (u 4), .int .i64 (u 5), .int .i64 (u 6), .int .i64 (u 7)] 62)
  rw [hw1] at e1 s1 b1 ⊢
  obtain ⟨w2, hw2⟩ : ∃ W, w1.alloc (.map #[] 0) = W := ⟨_, rfl⟩
  have m2 := MapAt.made (M := backK) w1
  have s2 := size_alloc' w1 (.map #[] 0)
  have b2 := (Below.refl w1.heap.size w1).alloc (Nat.le_refl _) (.map #[] 0)
  rw [hw2] at m2 s2 b2 ⊢
  obtain ⟨w3, hw3⟩ : ∃ W, w2.alloc (.cells #[.map (some (w.heap.size + 1))] 90) = W := ⟨_, rfl⟩
  have e3 := heap_alloc_new w2 (.cells #[.map (some (w.heap.size + 1))] 90)
  have s3 := size_alloc' w2 (.cells #[.map (some (w.heap.size + 1))] 90)
  have b3 := (Below.refl w2.heap.size w2).alloc (Nat.le_refl _) (.cells #[.map (some (w.heap.size + 1))] 90)
  rw [hw3] at e3 s3 b3 ⊢
  clear hw1 hw2 hw3
  obtain ⟨N0, hN0⟩ : ∃ N, w.heap.size = N := ⟨_, rfl⟩
  have b03 : Below N0 w w3 := by rw [← hN0]; exact b1.trans ((b2.trans (b3.mono (by omega))).mono (by omega))
  have m3 : MapAt backK w3 (N0 + 1) 0 (fun _ => none) := by
    have := m2.below b3
    rw [s1, hN0] at this
    exact this
  have e1 : VecAt w3 N0 u := by rw [← hN0]; exact (b3.block _ (by omega)).trans ((b2.block _ (by omega)).trans e1)
  have e3 : w3.heap[N0 + 2]? = some (.cells #[.map (some (N0 + 1))] 90 (0, 0)) := by
    rw [show w2.heap.size = N0 + 2 by omega] at e3
    rw [e3, hN0]
  have s3 : w3.heap.size = N0 + 3 := by omega
  rw [hN0] at hlt hmlt ⊢
  clear m2 b1 b2 b3 s1 s2
  obtain ⟨v0, v1, v2, v3, v4, v5, v6, v7⟩ := e1.cells
  go_wp2_with fail
  refine (between_sh p (fun _ => 0) u w3).mono ?_
  rintro e w4 ⟨rfl, hw4⟩
  obtain ⟨hbt, b4, s4⟩ := Btw.made hw4 (by omega) ((b03.cell (p := ⟨p, 1, none⟩) (by rw [← hN0] at hlt; rw [← hN0]; exact hlt)).trans HC1.out) (HMP.out.of_block (b03.block m hmlt))
  clear hw4
  have e1 : VecAt w4 N0 u := (b4.block N0 (by omega)).trans e1
  have e3 := (b4.block (N0 + 2) (by omega)).trans e3
  have m4 := m3.below b4
  have b04 : Below N0 w w4 := b03.trans (b4.mono (by omega))
  rw [s3] at hbt s4 ⊢
  clear m3 b03 b4 v0 v1 v2 v3 v4 v5 v6 v7
  go_wp2_with fail
  have hseq := btwP_stops SdOK Fence.wide 8 trivial rfl (by omega) (N0 + 3) p m N0 (fun _ => 0) u arr (by rw [hL]; exact HOK.out) (fun _ _ => Nat.zero_le _) hu8 w4 hlt hmlt (by omega) (by omega) hbt
  rw [hL] at hseq
  refine (wpIn_wide (n := 9)).1 (wpIn_rangeFunc_ownH rfl (by omega) rfl trivial (enters_of Try.func64 (by kernel_rfl) rfl) hseq KpB.t (KpB.b (by omega) (by omega)) (Below.refl _ _) (fun _ => rfl)
    (fun (pre : List { s : Sd // SdOK s }) W => (∃ n, n ≤ pre.length ∧ MapAt backK W (N0 + 1) n (backF (svals pre))) ∧ Ext (fun b => b = N0 + 1) w4 W)
    (fun _ _ _ => False)
    (OwnFrom.and (mapOwn (by omega) _ _) extOwn)
    (fun _ _ _ _ _ hs _ _ => hs)
    ⟨⟨0, Nat.le_refl _, m4⟩, Ext.refl _ _⟩
    (fun x a' W => ∃ Bx, w4.heap.size ≤ Bx ∧ BoxS W Bx x.1 ∧ a' = { tmps := #[.pointer (some ⟨p, 0, none⟩), (.agg #[.int .i64 (u 0), .int .i64 (u 1), .int .i64 (u 2), .int .i64 (u 3), .int .i64 (u 4), .int .i64 (u 5), .int .i64 (u 6), .int .i64 (u 7)]), undef, .pointer (some ⟨N0, 0, none⟩), .slice none 0 0, .pointer (some ⟨N0 + 2, 0, none⟩), .pointer (some ⟨Bx, 0, none⟩), undef, undef, undef, undef, undef, undef, undef, undef, undef, undef, undef, undef, undef, .map (some (N0 + 1)), .pointer (some ⟨p, 0, none⟩), (.agg #[.int .i64 0, .int .i64 0, .int .i64 0, .int .i64 0, .int .i64 0, .int .i64 0, .int .i64 0, .int .i64 0]), (.agg #[.int .i64 (u 0), .int .i64 (u 1), .int .i64 (u 2), .int .i64 (u 3), .int .i64 (u 4), .int .i64 (u 5), .int .i64 (u 6), .int .i64 (u 7)]), .func (.func 64) #[] #[.pointer (some ⟨(N0 + 3) + 1, 0, none⟩), .pointer (some ⟨(N0 + 3) + 2, 0, none⟩), .pointer (some ⟨(N0 + 3), 0, none⟩)], valSd x.1, undef, undef, undef, undef, undef, undef, undef, undef, undef, undef, undef, undef, undef, undef, undef, undef, undef, undef, undef, undef, undef, undef, undef, undef, undef, undef, undef, undef, undef, undef, undef, undef, undef, undef, undef, undef, undef, undef, undef, undef, undef, undef, undef, undef, undef, undef, undef, undef, undef, undef, undef, undef, undef, undef, undef, undef, undef, undef, undef, undef, undef, undef, undef, undef, undef, undef, undef, undef, undef, undef, undef, undef, undef, undef, undef, undef, undef, undef, undef, undef, undef, undef, undef], defers := [] })
    (fun x a' _ X Y row hs hg hr => by
      obtain ⟨Bx, h1, h2, h3⟩ := hs
      refine ⟨Bx, h1, (hg.block Bx (Array.getElem?_eq_some_iff.1 h2).1 (fun e => ?_)).trans h2, h3⟩
      obtain ⟨o, ho, hc⟩ := (hr Bx e.symm).2
      rw [show X.heap[Bx]? = _ from h2] at ho
      cases ho
      cases hc)
    ?assign ?body ?done ?stop)
  case assign =>
    rintro l pre ⟨⟨xc, xn, xk, xv, xt, xu, xb⟩, hx⟩ W K ⟨⟨n, hn, hm⟩, hE⟩ hK
    dsimp only [valSd] at hK ⊢
    gi_wp2
    have hba := (Below.refl W.heap.size W).alloc (Nat.le_refl _) (.cells #[.int .i64 xc, .int .i64 xn, .string xk, .string xv, .int .i64 xt, .int .i64 xu, .int .i64 xb] 38)
    exact hK _ _ ((KeepsOthers.alloc _ _).from _) (.of_below hba (by have := hE.size; omega) (by have := hE.size; omega)) ⟨⟨n, hn, hm.below hba⟩, hE.thenBelow hba⟩ ⟨W.heap.size, hE.size, World.alloc_heap_new W _, rfl⟩
  case body =>
    rintro l pre ⟨⟨xc, xn, xk, xv, xt, xu, xb⟩, hx⟩ a' W hl ⟨r, hr⟩ ⟨⟨n, hn, hm⟩, hE⟩ ⟨Bx, hBx, bX, rfl⟩ hlt'
    obtain ⟨x0, x1, x2, x3, x4, x5, x6⟩ := bX.cells
    have c5 : W.cell? ⟨N0 + 2, 0, none⟩ = some (.map (some (N0 + 1))) := (hE.cell (a := ⟨N0 + 2, 0, none⟩) (by show N0 + 2 < _; omega) (by simp)).trans (by simp [World.cell?, e3])
    dsimp only [valSd] at x0 x1 x2 x3 x4 x5 x6 ⊢
    have k1 := hx.c
    have k2 := hx.n
    have k3 := hx.back
    dsimp only at k1 k2 k3
    have hw1 : IntKind.i64.wrap (xc - 1) = xc - 1 := wrapK _ (by omega) (by omega)
    gi_wp2_with (gi_at_mapUpdate; refine wpListIn_putM backK_law _ rfl _ _ _ rfl rfl hm (by unfold maxLen; omega) (xc - 1, xb) ⟨isI64_of (by omega), isI64_of (by omega)⟩ rfl (.bool true) rfl ?_; intro w' hm' hg')
    refine ⟨KeepsFrom.of_grownBy hg' (fun j e => by have := Option.some.inj e; omega), ⟨(Below.refl N0 W).grown hg' (by have := hE.size; omega) (fun j e => by have := Option.some.inj e; omega), fun j h1 h2 h3 => hg'.block j h3 (fun e => by have := Option.some.inj e; omega)⟩, ⟨if (backF (svals pre) (xc - 1, xb)).isSome then n else n + 1, ?_, ?_⟩, hE.grown hg' (fun r e => (Option.some.inj e).symm)⟩
    · rw [List.length_append, List.length_singleton]; split <;> omega
    · rw [svals_snoc]
      exact hm'.ext fun q _ => by rw [← backF_snoc]
  case done =>
    rintro D ys W hD hys ⟨⟨n, hn, hm⟩, hE⟩ hK
    rw [show svals ys = L from hys] at hm
    have f1 : VecAt W N0 u := (hE.block N0 (by omega) (by omega)).trans e1
    have f3 := (hE.block (N0 + 2) (by omega) (by omega)).trans e3
    have g04 : Below N0 w W := ext_pre b04 hE (by omega) (fun b hb => by omega)
    have hWs := hE.size
    have hDl : D < W.heap.size := (Array.getElem?_eq_some_iff.1 hK).1
    clear hE e1 e3 b04 hseq hbt m4
    dsimp only
    go_upto_region 7 with fail
    obtain ⟨w1, hw1⟩ : ∃ W1, W.alloc (.map #[] 0) = W1 := ⟨_, rfl⟩
    have m2 := MapAt.made (M := byK) W
    have s1 := size_alloc' W (.map #[] 0)
    have b1 := (Below.refl W.heap.size W).alloc (Nat.le_refl _) (.map #[] 0)
    rw [hw1] at m2 s1 b1 ⊢
    obtain ⟨w2, hw2⟩ : ∃ W2, w1.alloc (.cells #[.map (some W.heap.size)] 91) = W2 := ⟨_, rfl⟩
    have e2 := heap_alloc_new w1 (.cells #[.map (some W.heap.size)] 91)
    have s2 := size_alloc' w1 (.cells #[.map (some W.heap.size)] 91)
    have b2 := (Below.refl w1.heap.size w1).alloc (Nat.le_refl _) (.cells #[.map (some W.heap.size)] 91)
    rw [hw2] at e2 s2 b2 ⊢
    obtain ⟨w3', hw3⟩ : ∃ W3, w2.alloc (.cells #[.slice none 0 0] 92) = W3 := ⟨_, rfl⟩
    have e3 := heap_alloc_new w2 (.cells #[.slice none 0 0] 92)
    have s3' := size_alloc' w2 (.cells #[.slice none 0 0] 92)
    have b3 := (Below.refl w2.heap.size w2).alloc (Nat.le_refl _) (.cells #[.slice none 0 0] 92)
    rw [hw3] at e3 s3' b3 ⊢
    clear hw1 hw2 hw3
    obtain ⟨Q, hQ⟩ : ∃ Q, W.heap.size = Q := ⟨_, rfl⟩
    have m3 := m2.below (b2.trans (b3.mono (by omega)))
    have e2 := (b3.block _ (by omega)).trans e2
    rw [show w1.heap.size = Q + 1 by omega] at e2
    rw [show w2.heap.size = Q + 2 by omega] at e3
    have bW : Below W.heap.size W w3' := b1.trans ((b2.trans (b3.mono (by omega))).mono (by omega))
    have s3' : w3'.heap.size = Q + 3 := by omega
    rw [hQ] at m3 e2 bW hDl hWs ⊢
    have f1 : VecAt w3' N0 u := (bW.block N0 (by omega)).trans f1
    have f3 := (bW.block (N0 + 2) (by omega)).trans f3
    have hm := hm.of_block (bW.block (N0 + 1) (by omega))
    have hK := (bW.block D hDl).trans hK
    have g04 : Below N0 w w3' := g04.trans (bW.mono (by omega))
    clear b1 b2 b3 s1 s2 m2
    obtain ⟨v0, v1, v2, v3, v4, v5, v6, v7⟩ := f1.cells
    go_wp2_with fail
    refine (between_sh p (fun _ => 0) u w3').mono ?_
    rintro e w5 ⟨rfl, hw5⟩
    obtain ⟨hbt, b5, s5⟩ := Btw.made hw5 (by omega) ((g04.cell (p := ⟨p, 1, none⟩) hlt).trans (by rw [← hN0] at *; exact HC1.out)) (HMP.out.of_block (g04.block m hmlt))
    clear hw5
    have f1 : VecAt w5 N0 u := (b5.block N0 (by omega)).trans f1
    have f3 := (b5.block (N0 + 2) (by omega)).trans f3
    have hm := hm.of_block (b5.block (N0 + 1) (by omega))
    have hK := (b5.block D (by omega)).trans hK
    have m3 := m3.below b5
    have e2 := (b5.block _ (by omega)).trans e2
    have e3 : Boxed w5 (Q + 2) 92 (.slice none 0 0) := (b5.block _ (by omega)).trans e3
    have g04 : Below N0 w w5 := g04.trans (b5.mono (by omega))
    rw [s3'] at hbt s5 ⊢
    clear b5 v0 v1 v2 v3 v4 v5 v6 v7 bW
    go_wp2_with fail
    have hseq := btwP_stops SdOK Fence.wide 8 trivial rfl (by omega) (Q + 3) p m N0 (fun _ => 0) u arr (by rw [hL]; exact HOK.out) (fun _ _ => Nat.zero_le _) hu8 w5 hlt hmlt (by omega) (by omega) hbt
    rw [hL] at hseq
    have hmix : Try.prog.follows .mixedOrders = true := by kernel_rfl
    refine (wpIn_wide (n := 9)).1 (wpIn_rangeFunc_ownH rfl (by omega) rfl trivial (enters_of Try.func64 (by kernel_rfl) rfl) hseq KpB.t (KpB.b (by omega) (by omega)) (Below.refl _ _) (fun _ => rfl)
      (fun (pre : List { s : Sd // SdOK s }) W' => ByInv W' Q L (svals pre) ∧ Ext (fun b => b = Q ∨ b = Q + 2) w5 W')
      (fun _ _ _ => False)
      (OwnFrom.and (fun pre X Y row ⟨nb, f, vks, ks, q1, q2, q3, q4, q5⟩ hg hr => ⟨nb, f, vks, ks, q1, q2.grown hg (fun e => by have := (hr Q e.symm).1; omega), q3.kept hg (fun r e => (hr r e).2), (hg.block (Q + 2) (Array.getElem?_eq_some_iff.1 q4).1 (fun e => by have := (hr (Q + 2) e.symm).1; omega)).trans q4, q5⟩) extOwn)
      (fun _ _ _ _ _ hs _ _ => hs)
      ⟨⟨0, _, _, [], Nat.zero_le _, m3, ByAt.nil _ _ _, e3, KeysAt.nil L⟩, Ext.refl _ _⟩
      (fun x a' W => ∃ Bx, w5.heap.size ≤ Bx ∧ BoxS W Bx x.1 ∧ (∀ nb f, MapAt byK W Q nb f → ∀ k v, k.size ≤ maxLen → f k = some v → v.ownBlock ≠ some Bx) ∧ a' = { tmps := #[.pointer (some ⟨p, 0, none⟩), (.agg #[.int .i64 (u 0), .int .i64 (u 1), .int .i64 (u 2), .int .i64 (u 3), .int .i64 (u 4), .int .i64 (u 5), .int .i64 (u 6), .int .i64 (u 7)]), undef, .pointer (some ⟨N0, 0, none⟩), .slice none 0 0, .pointer (some ⟨N0 + 2, 0, none⟩), undef, .pointer (some ⟨Q + 1, 0, none⟩), .pointer (some ⟨Q + 2, 0, none⟩), .pointer (some ⟨Bx, 0, none⟩), undef, undef, undef, undef, undef, undef, undef, undef, undef, undef, .map (some (N0 + 1)), .pointer (some ⟨p, 0, none⟩), (.agg #[.int .i64 0, .int .i64 0, .int .i64 0, .int .i64 0, .int .i64 0, .int .i64 0, .int .i64 0, .int .i64 0]), (.agg #[.int .i64 (u 0), .int .i64 (u 1), .int .i64 (u 2), .int .i64 (u 3), .int .i64 (u 4), .int .i64 (u 5), .int .i64 (u 6), .int .i64 (u 7)]), .func (.func 64) #[] #[.pointer (some ⟨(N0 + 3) + 1, 0, none⟩), .pointer (some ⟨(N0 + 3) + 2, 0, none⟩), .pointer (some ⟨(N0 + 3), 0, none⟩)], undef, undef, undef, undef, undef, undef, undef, undef, .map (some Q), .pointer (some ⟨p, 0, none⟩), (.agg #[.int .i64 0, .int .i64 0, .int .i64 0, .int .i64 0, .int .i64 0, .int .i64 0, .int .i64 0, .int .i64 0]), (.agg #[.int .i64 (u 0), .int .i64 (u 1), .int .i64 (u 2), .int .i64 (u 3), .int .i64 (u 4), .int .i64 (u 5), .int .i64 (u 6), .int .i64 (u 7)]), .func (.func 64) #[] #[.pointer (some ⟨(Q + 3) + 1, 0, none⟩), .pointer (some ⟨(Q + 3) + 2, 0, none⟩), .pointer (some ⟨(Q + 3), 0, none⟩)], valSd x.1, undef, undef, undef, undef, undef, undef, undef, undef, undef, undef, undef, undef, undef, undef, undef, undef, undef, undef, undef, undef, undef, undef, undef, undef, undef, undef, undef, undef, undef, undef, undef, undef, undef, undef, undef, undef, undef, undef, undef, undef, undef, undef, undef, undef, undef, undef, undef, undef, undef, undef, undef, undef, undef, undef, undef, undef, undef, undef, undef, undef, undef, undef, undef, undef, undef, undef, undef, undef, undef, undef], defers := [] })
      (fun x a' _ X Y row hs hg hr => by
        obtain ⟨Bx, h1, h2, h4, h3⟩ := hs
        refine ⟨Bx, h1, (hg.block Bx (Array.getElem?_eq_some_iff.1 h2).1 (fun e => ?_)).trans h2, fun nb f hf => h4 nb f (hf.of_block (hg.block Q (by have := (Array.getElem?_eq_some_iff.1 h2).1; omega) (fun e => by have := (hr Q e.symm).1; omega)).symm), h3⟩
        obtain ⟨o, ho, hc⟩ := (hr Bx e.symm).2
        rw [show X.heap[Bx]? = _ from h2] at ho
        cases ho
        cases hc)
      ?assign2 ?body2 ?done2 ?stop2)
    case assign2 =>
      rintro l pre ⟨⟨xc, xn, xk, xv, xt, xu, xb⟩, hx⟩ W' K ⟨⟨nb, f, vks, ks, q1, q2, q3, q4, q5⟩, hE⟩ hK
      dsimp only [valSd] at hK ⊢
      gi_wp2
      have hba := (Below.refl W'.heap.size W').alloc (Nat.le_refl _) (.cells #[.int .i64 xc, .int .i64 xn, .string xk, .string xv, .int .i64 xt, .int .i64 xu, .int .i64 xb] 38)
      exact hK _ _ ((KeepsOthers.alloc _ _).from _) (.of_below hba (by have := hE.size; omega) (by have := hE.size; omega)) ⟨⟨nb, f, vks, ks, q1, q2.below hba, q3.below hba, (hba.block _ (by have := hE.size; omega)).trans q4, q5⟩, hE.thenBelow hba⟩ ⟨W'.heap.size, hE.size, World.alloc_heap_new W' _, fun nb' f' hf' k v hk hv => by
        rw [← (q2.below hba).uniq byK_law hf' hk] at hv
        obtain ⟨g, h1, -, h2⟩ := q3.own hv
        rw [h1]
        intro e
        have := Option.some.inj e
        omega, rfl⟩
    case body2 =>
      rintro l pre ⟨⟨xc, xn, xk, xv, xt, xu, xb⟩, hx⟩ a' W' hl ⟨r, hr⟩ ⟨⟨nb, f, vks, ks, q1, q2, q3, q4, q5⟩, hE⟩ ⟨Bx, hBx, bX, hdis, rfl⟩ hlt'
      have hdis := hdis nb f q2 xk
      obtain ⟨x0, x1, x2, x3, x4, x5, x6⟩ := bX.cells
      dsimp only [valSd] at x0 x1 x2 x3 x4 x5 x6 ⊢
      have c5 : W'.cell? ⟨N0 + 2, 0, none⟩ = some (.map (some (N0 + 1))) := (hE.cell (a := ⟨N0 + 2, 0, none⟩) (by show N0 + 2 < _; omega) (by simp; omega)).trans (by simp [World.cell?, f3])
      have k1 := hx.c
      have k2 := hx.n
      have k4 := hx.key
      dsimp only at k1 k2 k4
      have hmW := hm.of_block (hE.block (N0 + 1) (by omega) (by omega))
      have HLK : Hid (∀ W'', Below W'.heap.size W' W'' → (Instr.lookup 90 (.map (some (N0 + 1))) (.agg #[.int .i64 (xc - 1), .int .i64 xn]) false).run Try.prog W'' = .ok (.bool (backed L ⟨xc, xn, xk, xv, xt, xu, xb⟩)) W'') := Lib.hid fun W'' hb => by
        have := (hmW.below hb).look backK_law (x := (xc - 1, xn)) ⟨isI64_of (by omega), isI64_of (by omega)⟩
        rw [show backK.z = .bool false from rfl, backF_at L ⟨xc, xn, xk, xv, xt, xu, xb⟩] at this
        exact this
      have hof := fun W => of_sh ⟨xc, xn, xk, xv, xt, xu, xb⟩ W (by dsimp only; omega)
      dsimp only [valSd] at hof
      have hbd := belowDrew (Below.refl W'.heap.size W')
      have hfn : Fence.wide.fn 34 = True := rfl
      have hW's := hE.size
      obtain ⟨cq, hcq⟩ : ∃ c, counts L ⟨xc, xn, xk, xv, xt, xu, xb⟩ = c := ⟨_, rfl⟩
      gi_upto_region 9 with fail
      gi_cut [47] from 39 (fun b wx => b = .bool (!cq) ∧ Below W'.heap.size W' wx)
      case first =>
        by_cases hk0 : xk.size = 0
        · have hdead : cq = false := by rw [← hcq]; simp [counts, hk0]
          have hemp : xk.toList.isEmpty = true := by
            simp [Go.Lib.toList_data, List.isEmpty_iff]
            exact Array.eq_empty_of_size_eq_zero hk0
          gi_region_with_o (fail)
          all_goals
            gi_wp2
            gi_meet
            rw [hdead]
            exact ⟨rfl, hbd⟩
        · have hemp : xk.toList.isEmpty = false := by
            rw [Bool.eq_false_iff]
            intro h
            simp [Go.Lib.toList_data, List.isEmpty_iff] at h
            exact hk0 (by simp [ByteArray.size, h])
          have hdead : (!cq) = backed L ⟨xc, xn, xk, xv, xt, xu, xb⟩ := by rw [← hcq]; simp [counts, hk0]
          obtain ⟨bk, hbk⟩ : ∃ b, backed L ⟨xc, xn, xk, xv, xt, xu, xb⟩ = b := ⟨_, rfl⟩
          rw [hbk] at HLK hdead
          have HOF := Lib.hid (fun W => CallsIn.inRound (F := Fence.wide) (n := 6) l (callsIn_wide.2 (hof W)))
          clear hof
          gi_region_with_o ((gi_at_call 34; refine (HOF.out _).mono ?_; rintro e w6 ⟨rfl, hb6⟩; have hb6 : Below W'.heap.size W' w6 := hbd.trans hb6; have hlk := HLK.out w6 hb6; have c5w := (hb6.cell (p := ⟨N0 + 2, 0, none⟩) (by show N0 + 2 < _; have := hE.size; omega)).trans c5))
          all_goals
            gi_wp2
            gi_meet
            exact ⟨by rw [hdead], hb6⟩
      case rest =>
        obtain ⟨rfl, hbc⟩ := hcut
        have q2 := q2.below hbc
        have q3 := q3.below hbc
        have q4 : Boxed wc (Q + 2) 92 vks := (hbc.block _ (by omega)).trans q4
        have hE' := hE.thenBelow hbc
        have bX : BoxS wc Bx ⟨xc, xn, xk, xv, xt, xu, xb⟩ := bX.below hbc (Array.getElem?_eq_some_iff.1 bX).1
        have hBxl := (Array.getElem?_eq_some_iff.1 bX).1
        have HKF : Hid (∀ W'', Below wc.heap.size wc W'' → KeepsFrom (Q + 3 + 3) W' W'') := Lib.hid fun W'' h => ⟨(hbc.trans (h.mono hbc.size)).size, fun k o _ hk _ => ((hbc.trans (h.mono hbc.size)).block k (Array.getElem?_eq_some_iff.1 hk).1).trans hk⟩
        clear HLK hof hmW x0 x1 x2 x3 x4 x5 x6 c5
        obtain ⟨x0, x1, x2, x3, x4, x5, x6⟩ := bX.cells
        dsimp only at x0 x1 x2 x3 x4 x5 x6
        cases cq with
        | false =>
          gi_wp2
          exact ⟨HKF.out _ (Below.refl _ _), .of_below hbc (by omega) (by omega), ⟨nb, f, vks, ks, by rw [svals_snoc, List.length_append]; omega, q2, by rw [svals_snoc]; exact q3.dead hcq, q4, by rw [svals_snoc]; exact q5.dead hcq⟩, hE'⟩
        | true =>
          have c7 : wc.cell? ⟨Q + 1, 0, none⟩ = some (.map (some Q)) := (hE'.cell (a := ⟨Q + 1, 0, none⟩) (by show Q + 1 < _; omega) (by simp)).trans (by simp [World.cell?, e2])
          have hkm : xk.size ≤ maxLen := by unfold maxLen; omega
          obtain ⟨v0, hv0⟩ : ∃ v, (f xk).getD (.slice none 0 0) = v := ⟨_, rfl⟩
          obtain ⟨ok, hokk⟩ : ∃ b, (f xk).isSome = b := ⟨_, rfl⟩
          have hlk1 : (Instr.lookup 91 (.map (some Q)) (.string xk) true).run Try.prog wc = .ok (.tuple #[v0, .bool ok]) wc := by
            rw [← hv0, ← hokk]
            exact q2.look_ok byK_law hkm
          have hksl : ks.length ≤ 8000 := by
            have := q5.len
            rw [svals_len] at this
            omega
          gi_upto_if 56 with fail
          gi_cut [] from 57 (fun wx => ∃ vks1 ks1, ByAt wx (Q + 6) L (svals pre) f vks1 ks1 ∧ KeysAt L (svals pre ++ [⟨xc, xn, xk, xv, xt, xu, xb⟩]) ks1 ∧ Boxed wx (Q + 2) 92 vks1 ∧ MapAt byK wx Q nb f ∧ BoxS wx Bx ⟨xc, xn, xk, xv, xt, xu, xb⟩ ∧ Ext (fun b => b = Q ∨ b = Q + 2) w5 wx ∧ KeepsFrom (Q + 3 + 3) W' wx)
          case first =>
            cases ok with
            | true =>
              obtain ⟨v1, hv1⟩ := Option.isSome_iff_exists.1 hokk
              gi_wp2
              gi_meet
              exact ⟨vks, ks, q3, q5.old hcq (q3.got _ _ hv1), q4, q2, bX, hE', HKF.out _ (Below.refl _ _)⟩
            | false =>
              have hf0 : f xk = none := by
                cases e : f xk with
                | none => rfl
                | some v => rw [e] at hokk; cases hokk
              obtain ⟨i1, hi1, hy0, hy1, hy2⟩ := info_parts infoStr
              have c8 := q4.cell
              gi_wp2_with (gi_at_builtin; go_loud (refine wpListIn_append_own_at _ rfl _ _ 92 rfl (Q + 6) 9 i1 _ 1 16 Try.underlying92 hi1 hy0 hy1 hy2 rfl (by decide) vks ks.length (ks.map Value.string) rfl (q3.ks.alloc _) ⟨wc.heap.size, 0, none⟩ 1 1 [.string xk] rfl rfl (newsLit (cs := #[.string xk]) rfl) (by simp [Value.oneCell']) (by unfold maxLen; omega) (by omega) (by simp; omega) ?_); intro v' w1 hown' hgrow hnil hblk; obtain ⟨g', cap', rfl⟩ := ownsRow_succ hown'; have hv1 : Boxed w1 (Q + 2) 92 vks := (q4.alloc _).kept hgrow (fun e => by have := ownBlock_lt q3.ks e.symm; omega); have hc1 := hv1.cell; have hf1 := hv1.frozen)
              gi_meet
              have hba := (Below.refl wc.heap.size wc).alloc (Nat.le_refl _) (.cells #[.string xk] 9)
              have hrow : ∀ r, vks.ownBlock = some r → Q + 6 ≤ r := fun r e => (ownBlock_lt q3.ks e).1
              have hwz := hE'.size
              refine ⟨_, ks ++ [xk], q3.key (vks' := .slice (some ⟨g', 0, none⟩) (ks.length + 1) cap') hown' hgrow (hblk.imp id fun h => by rw [h, size_alloc']) (by omega) _, q5.new hcq (q3.no xk hf0), hv1.set _, ?_, ?_, ?_, ?_⟩
              · exact ((q2.below hba).grown hgrow (fun e => by have := hrow _ e.symm; omega)).set (by show Q + 2 ≠ Q; omega) _
              · refine (Below.heap_setCell _ _ _ _ (by show Bx ≠ Q + 2; omega)).trans ((hgrow.block Bx (by have := hBxl; have := hbc.size; simp; omega) (fun e => ?_)).trans (bX.below hba (by have := (Array.getElem?_eq_some_iff.1 bX).1; exact this)))
                have e := e.symm
                rcases q3.ks.2 with ⟨h1, -⟩ | ⟨g, cap, cur, h1, -, hgb, -⟩
                · rw [h1] at e
                  simp [Value.ownBlock] at e
                · rw [h1] at e
                  obtain rfl : g = Bx := by simpa [Value.ownBlock] using e
                  rw [show wc.heap[g]? = _ from bX] at hgb
                  simp at hgb
              · exact Ext.setCell (Ext.grownNew (hE'.thenBelow hba) hgrow (fun r e => .inr (by have := hrow r e; omega))) (.inl (.inr rfl)) _
              · refine KeepsFrom.trans (HKF.out _ hba) (KeepsFrom.trans (Y := w1) ((KeepsOthers.of_grownBy hgrow ?_).from _) ((KeepsOthers.setCell _ _ _).from _))
                intro j o hj ho
                rcases (q3.ks.alloc (.cells #[.string xk] 9)).2 with ⟨h1, -⟩ | ⟨g, cap, cur, h1, -, hgb, -⟩
                · rw [h1] at hj
                  simp [Value.ownBlock] at hj
                · rw [h1] at hj
                  obtain rfl : g = j := by simpa [Value.ownBlock] using hj
                  rw [ho] at hgb
                  cases hgb
                  rfl
          case rest =>
            obtain ⟨vks1, ks1, q3, q5, q4, q2, bX, hEx, hKx⟩ := hcut
            have hxs := hEx.size
            clear x0 x1 x2 x3 x4 x5 x6 c7 hlk1 HKF
            obtain ⟨x0, x1, x2, x3, x4, x5, x6⟩ := bX.cells
            dsimp only at x0 x1 x2 x3 x4 x5 x6
            have b7 : Boxed wc (Q + 1) 91 (.map (some Q)) := (hEx.block (Q + 1) (by omega) (by omega)).trans e2
            have c7 := b7.cell
            have hlk2 : (Instr.lookup 91 (.map (some Q)) (.string xk) false).run Try.prog wc = .ok v0 wc := by
              rw [← hv0]
              exact q2.look byK_law hkm
            gi_wp2
            have hbd2 := belowDrew (Below.refl wc.heap.size wc)
            obtain ⟨i2, hi2, hz0, hz1, hz2⟩ := info_parts infoS
            have hS0 : BoxS wc.drew Bx ⟨xc, xn, xk, xv, xt, xu, xb⟩ ∧ Boxed wc.drew (Q + 1) 91 (.map (some Q)) := ⟨bX, b7⟩
            refine wpIn_round_held (S := fun W => BoxS W Bx ⟨xc, xn, xk, xv, xt, xu, xb⟩ ∧ Boxed W (Q + 1) 91 (.map (some Q))) hmix (by kernel_rfl) (fun h => h.elim fun _ h => h.elim fun _ h => h) ?_
            refine wpAnyH_take (i := 0) (v := (.map (some Q))) rfl (by kernel_rfl) (by kernel_rfl) (by kernel_rfl) (fun _ _ _ h => h) (Or.inl ⟨by rfl, ?_⟩) hS0 ?_
            · intro wq hSq
              obtain ⟨x0, x1, x2, x3, x4, x5, x6⟩ := hSq.1.cells
              have c7 := hSq.2.cell
              dsimp only at x0 x1 x2 x3 x4 x5 x6
              go_simp
            simp only [Act.put, List.setIfInBounds_toArray, List.set_cons_zero, List.set_cons_succ]
            refine wpAnyH_take (i := 1) (v := (.pointer (some ⟨Bx, 2, none⟩))) rfl (by kernel_rfl) (by kernel_rfl) (by kernel_rfl) (fun _ _ _ h => h) (Or.inl ⟨by rfl, ?_⟩) hS0 ?_
            · intro wq hSq
              obtain ⟨x0, x1, x2, x3, x4, x5, x6⟩ := hSq.1.cells
              have c7 := hSq.2.cell
              dsimp only at x0 x1 x2 x3 x4 x5 x6
              go_simp
            simp only [Act.put, List.setIfInBounds_toArray, List.set_cons_zero, List.set_cons_succ]
            refine wpAnyH_take (i := 2) (v := (.string xk)) rfl (by kernel_rfl) (by kernel_rfl) (by kernel_rfl) (fun _ _ _ h => h) (Or.inl ⟨by rfl, ?_⟩) hS0 ?_
            · intro wq hSq
              obtain ⟨x0, x1, x2, x3, x4, x5, x6⟩ := hSq.1.cells
              have c7 := hSq.2.cell
              dsimp only at x0 x1 x2 x3 x4 x5 x6
              go_simp
            simp only [Act.put, List.setIfInBounds_toArray, List.set_cons_zero, List.set_cons_succ]
            refine wpAnyH_take (i := 3) (v := v0) rfl (by kernel_rfl) (by kernel_rfl) (by kernel_rfl) (fun _ _ _ h => h) (Or.inl ⟨by rfl, ?_⟩) hS0 ?_
            · intro wq hSq
              obtain ⟨x0, x1, x2, x3, x4, x5, x6⟩ := hSq.1.cells
              have c7 := hSq.2.cell
              dsimp only at x0 x1 x2 x3 x4 x5 x6
              go_simp
            simp only [Act.put, List.setIfInBounds_toArray, List.set_cons_zero, List.set_cons_succ]
            refine wpAnyH_take (i := 4) (v := (.agg #[.int .i64 xc, .int .i64 xn, .string xk, .string xv, .int .i64 xt, .int .i64 xu, .int .i64 xb])) rfl (by kernel_rfl) (by kernel_rfl) (by kernel_rfl) (fun _ _ _ h => h) (Or.inl ⟨by rfl, ?_⟩) hS0 ?_
            · intro wq hSq
              obtain ⟨x0, x1, x2, x3, x4, x5, x6⟩ := hSq.1.cells
              have c7 := hSq.2.cell
              dsimp only at x0 x1 x2 x3 x4 x5 x6
              go_simp
            simp only [Act.put, List.setIfInBounds_toArray, List.set_cons_zero, List.set_cons_succ]
            have hrow : ∀ r, v0.ownBlock = some r → Q + 6 ≤ r ∧ r < wc.heap.size ∧ r ≠ Bx := fun r e => by
              cases e2 : f xk with
              | none =>
                rw [e2] at hv0
                subst hv0
                simp [Value.ownBlock] at e
              | some v1 =>
                rw [e2] at hv0
                obtain rfl : v1 = v0 := hv0
                obtain ⟨g, h1, h2, h3⟩ := q3.own e2
                rw [h1] at e
                obtain rfl : g = r := Option.some.inj e
                exact ⟨h2, h3, fun h => hdis _ hkm e2 (by rw [h1, h])⟩
            have hlrow : (byF L (svals pre) xk).length ≤ 8000 := by
              have := byF_len L (svals pre) xk
              rw [svals_len] at this
              omega
            have q3d := q3.below hbd2
            have hown0 : wc.drew.ownsRow (Q + 6) 38 7 v0 (byF L (svals pre) xk).length (flatE encSd (byF L (svals pre) xk)) := by
              cases e2 : f xk with
              | none =>
                rw [e2] at hv0
                subst hv0
                rw [q3.no xk e2]
                exact World.ownsRow_nil _ _ _ _
              | some v1 =>
                rw [e2] at hv0
                obtain rfl : v1 = v0 := hv0
                exact q3d.row _ _ e2
            have hSa : BoxS (wc.drew.alloc (.cells #[.int .i64 xc, .int .i64 xn, .string xk, .string xv, .int .i64 xt, .int .i64 xu, .int .i64 xb] 38)) Bx ⟨xc, xn, xk, xv, xt, xu, xb⟩ ∧ Boxed (wc.drew.alloc (.cells #[.int .i64 xc, .int .i64 xn, .string xk, .string xv, .int .i64 xt, .int .i64 xu, .int .i64 xb] 38)) (Q + 1) 91 (.map (some Q)) := by
              have hba := (Below.refl wc.drew.heap.size wc.drew).alloc (Nat.le_refl _) (.cells #[.int .i64 xc, .int .i64 xn, .string xk, .string xv, .int .i64 xt, .int .i64 xu, .int .i64 xb] 38)
              exact ⟨(hba.block Bx (Array.getElem?_eq_some_iff.1 bX).1).trans bX, (hba.block (Q + 1) (by show Q + 1 < wc.heap.size; omega)).trans b7⟩
            refine wpAnyH_ready (rs := [5]) (by kernel_rfl) (by simp) ?_
            refine AllReadyH.cons rfl (fun K hK => ?_) AllReadyH.nil
            go_simp
            refine hK.out _ _ hSa (fun hHeld => ?_)
            clear hK K hHeld
            try simp only [Act.put, List.setIfInBounds_toArray, List.set_cons_zero, List.set_cons_succ]
            refine wpAnyH_ready (rs := [6]) (by kernel_rfl) (by simp) ?_
            refine AllReadyH.cons rfl (fun K hK => ?_) AllReadyH.nil
            refine step_append_lies _ rfl _ _ _ rfl (Q + 6) 38 i2 _ 7 72 Try.underlying26 hi2 hz0 hz1 hz2 rfl (by omega) v0 _ _ rfl (hown0.alloc _) ⟨wc.heap.size, 0, none⟩ 1 1 (encSd ⟨xc, xn, xk, xv, xt, xu, xb⟩) rfl rfl (seven_new wc.drew ⟨xc, xn, xk, xv, xt, xu, xb⟩ _) (by simp [encSd, Value.oneCell']) (by omega) (by unfold maxLen; omega) (by omega) (by simp; omega) (wc.heap.size + 1) (by simp) ?_
            intro g cap w7 hown7 hgrow7 hat7 hlt7
            have hSb : BoxS w7 Bx ⟨xc, xn, xk, xv, xt, xu, xb⟩ ∧ Boxed w7 (Q + 1) 91 (.map (some Q)) :=
              ⟨(hgrow7.block Bx (by have := (Array.getElem?_eq_some_iff.1 bX).1; simp; omega) (fun e => (hrow _ e.symm).2.2 rfl)).trans hSa.1, (hgrow7.block (Q + 1) (by simp; omega) (fun e => by have := (hrow _ e.symm).1; omega)).trans hSa.2⟩
            refine hK.out _ _ hSb (fun hHeld => ?_)
            clear hK K hHeld
            simp only [Act.put, List.setIfInBounds_toArray, List.set_cons_zero, List.set_cons_succ]
            have hba := (Below.refl wc.drew.heap.size wc.drew).alloc (Nat.le_refl _) (.cells #[.int .i64 xc, .int .i64 xn, .string xk, .string xv, .int .i64 xt, .int .i64 xu, .int .i64 xb] 38)
            have q2a := ((q2.below hbd2).below hba).grown hgrow7 (fun e => by have := (hrow _ e.symm).1; omega)
            have hEa : Ext (fun b => b = Q ∨ b = Q + 2) w5 w7 := Ext.grownNew ((hEx.thenBelow hbd2).thenBelow hba) hgrow7 (fun r e => .inr (by have := (hrow r e).1; omega))
            have q4a : Boxed w7 (Q + 2) 92 vks1 := (hgrow7.block (Q + 2) (by simp; omega) (fun e => by have := (hrow _ e.symm).1; omega)).trans ((hba.block (Q + 2) (by show Q + 2 < wc.heap.size; omega)).trans q4)
            have hKa : KeepsFrom (Q + 3 + 3) W' w7 := by
              refine KeepsFrom.trans hKx (KeepsFrom.trans (Y := wc.drew.alloc (.cells #[.int .i64 xc, .int .i64 xn, .string xk, .string xv, .int .i64 xt, .int .i64 xu, .int .i64 xb] 38)) ⟨by simp, fun k o _ hk _ => (hba.block k (Array.getElem?_eq_some_iff.1 hk).1).trans hk⟩ ((KeepsOthers.of_grownBy hgrow7 ?_).from _))
              intro j o hj ho
              rcases (hown0.alloc (.cells #[.int .i64 xc, .int .i64 xn, .string xk, .string xv, .int .i64 xt, .int .i64 xu, .int .i64 xb] 38)).2 with ⟨h1, -⟩ | ⟨g', cap', cur, h1, -, hgb, -⟩
              · rw [h1] at hj
                simp [Value.ownBlock] at hj
              · rw [h1] at hj
                obtain rfl : g' = j := by simpa [Value.ownBlock] using hj
                have hgo := ho.symm.trans hgb
                cases hgo
                rfl
            refine wpAnyH_ready (rs := [7]) (by kernel_rfl) (by simp) ?_
            refine AllReadyH.cons rfl (fun K hK => ?_) AllReadyH.nil
            refine step_putM byK_law rfl _ _ _ rfl rfl q2a (by rw [svals_len] at q1; unfold maxLen; omega) xk hkm rfl _ rfl ?_
            intro w8 hm8 hg8
            refine hK.out _ _ ⟨(hg8.block Bx (Array.getElem?_eq_some_iff.1 hSb.1).1 (fun e => by have := Option.some.inj e; omega)).trans hSb.1, (hg8.block (Q + 1) hSb.2.lt (fun e => by have := Option.some.inj e; omega)).trans hSb.2⟩ (fun hHeld => ?_)
            clear hK K hHeld
            refine wpAnyH_done (by kernel_rfl) ?_ _
            have hfin := q3d.push hcq hv0 hown7 hgrow7 (hat7.imp id fun h => by rw [h]; rfl) hg8 (by omega)
            have hE8 : Ext (fun b => b = Q ∨ b = Q + 2) w5 w8 := hEa.grown hg8 (fun r e => .inl (Option.some.inj e).symm)
            have hKf : KeepsFrom (Q + 3 + 3) W' w8 := KeepsFrom.trans hKa (KeepsFrom.of_grownBy hg8 (fun j e => by have := Option.some.inj e; omega))
            rw [← s5] at hKf
            refine ⟨hKf, ?_, ⟨_, _, vks1, ks1, ?_, hm8, by rw [svals_snoc]; exact hfin, (hg8.block (Q + 2) q4a.lt (fun e => by have := Option.some.inj e; omega)).trans q4a, by rw [svals_snoc]; exact q5⟩, hE8⟩
            · exact kpb_of hE hE8 (by have := hKx.size; have := hgrow7.size; have := hg8.size; simp at *; omega) (by omega) (by omega) (fun b hb => by omega)
            · rw [svals_len] at q1 ⊢
              rw [List.length_append, List.length_singleton]
              split <;> omega
    case done2 =>
      rintro D2 ys W2 hD2 hys ⟨⟨nb, f, vks, ks, q1, q2, q3, q4, q5⟩, hE⟩ hK2
      rw [show svals ys = L from hys] at q1 q3 q5
      have b7 : Boxed W2 (Q + 1) 91 (.map (some Q)) := (hE.block (Q + 1) (by omega) (by omega)).trans e2
      have hK := (hE.block D (by omega) (by omega)).trans hK
      have g04 : Below N0 w W2 := ext_pre g04 hE (by omega) (fun b hb => by omega)
      have hW2 := hE.size
      have hksl : ks.length ≤ 8000 := by have := q5.len; omega
      clear hE hm e3 f1 f3 hseq hbt m3 e2
      obtain ⟨A, ck, rfl⟩ := rowSlice q3.ks
      have c8 := q4.cell
      have hsort := sort_keys _ ks (Q + 6) W2 q3.ks q5.nodup (by omega)
      have HSORT := Lib.hid hsort
      have hA : 0 < ks.length → ∃ g, A = some ⟨g, 0, none⟩ ∧ g < W2.heap.size := fun h => by
        obtain ⟨g, cap, e, -, h2⟩ := q3.ks.form h
        cases e
        exact ⟨g, rfl, h2⟩
      clear hsort
      dsimp only
      go_wp2_with fail
      refine HSORT.out.mono ?_
      rintro e w6 ⟨rfl, hg6, ks', hlen', hmem', hsort', hcell'⟩
      have hko : ∀ r, (Value.slice A ks.length ck).ownBlock = some r → Q + 6 ≤ r ∧ r < W2.heap.size := fun r e => ownBlock_lt q3.ks e
      have hrows : ∀ k v, f k = some v → w6.ownsRow (Q + 6) 38 7 v (byF L L k).length (flatE encSd (byF L L k)) := fun k v e => rowGrown (q3.row k v e) hg6 (fun r e2 e3 => q3.off k v e (e3.trans e2.symm))
      have q2 := q2.grown hg6 (fun e => by have := (hko _ e.symm).1; omega)
      have b7 : Boxed w6 (Q + 1) 91 (.map (some Q)) := (hg6.block (Q + 1) (by omega) (fun e => by have := (hko _ e.symm).1; omega)).trans b7
      have b8 : Boxed w6 (Q + 2) 92 (.slice A ks.length ck) := (hg6.block (Q + 2) (by omega) (fun e => by have := (hko _ e.symm).1; omega)).trans q4
      have c8 := b8.cell
      have hK := (hg6.block D (by omega) (fun e => by have := (hko _ e.symm).1; omega)).trans hK
      have hK2 : w6.heap[D2]? = _ := (hg6.block D2 (Array.getElem?_eq_some_iff.1 hK2).1 (fun e => by
        rcases q3.ks.2 with ⟨h1, -⟩ | ⟨g, cap, cur, h1, -, hgb, -⟩
        · rw [h1] at e
          simp [Value.ownBlock] at e
        · rw [h1] at e
          obtain rfl : D2 = g := by simpa [Value.ownBlock] using e
          rw [hK2] at hgb
          cases hgb)).trans hK2
      have g04 : Below N0 w w6 := g04.grown hg6 (by omega) (fun r e => by have := (hko _ e).1; omega)
      have hw6 := hg6.size
      have hHLK : Hid (∀ W key v, Below w6.heap.size w6 W → f key = some v → key.size ≤ maxLen → (Instr.lookup 91 (.map (some Q)) (.string key) false).run Try.prog W = .ok v W) := Lib.hid fun W key v hb hv hk => by
        have := (q2.below hb).look byK_law (x := key) hk
        rw [hv] at this
        exact this
      have hLst : Hid (∀ W key v, Below w6.heap.size w6 W → f key = some v → Lst 7 encSd W v (byF L L key)) := Lib.hid fun W key v hb hv => Lst_of_own encSd_len (ownsBelow (hrows key v hv) hb) rfl
      have hOwn : Hid (∀ key v, f key = some v → ∃ g, v.ownBlock = some g ∧ Q + 6 ≤ g ∧ g < w6.heap.size) := Lib.hid fun key v hv => by
        have hp := List.length_pos_iff.2 (q3.got key v hv)
        obtain ⟨g, cap, rfl, h1, h2⟩ := (hrows key v hv).form hp
        exact ⟨g, rfl, h1, h2⟩
      have hgot : Hid (∀ key, key ∈ ks' → ∃ v, f key = some v ∧ byF L L key ≠ [] ∧ key.size ≤ 32) := Lib.hid fun key hk => by
        have h1 := (q5.mem key).1 ((hmem' key).1 hk)
        cases e : f key with
        | none => exact absurd (q3.no key e) h1
        | some v =>
          refine ⟨v, rfl, h1, ?_⟩
          obtain ⟨s, hs⟩ := List.exists_mem_of_ne_nil _ h1
          have h2 := List.mem_filter.1 hs
          have h3 := (HOK.out s h2.1).key
          simp at h2
          rw [← h2.2.2]
          exact h3
      have hKS := Lib.hid hcell'
      clear q2 q3 hrows
      obtain ⟨N6, hN6⟩ : ∃ N, w6.heap.size = N := ⟨_, rfl⟩
      rw [hN6] at hw6 hHLK hLst hOwn
      obtain ⟨nk, hnk⟩ : ∃ n, ks.length = n := ⟨_, rfl⟩
      rw [hnk] at hlen' hksl hKS c8 b8 hA
      obtain ⟨i3, hi3, hz30, hz31, hz32⟩ := info_parts infoW
      rw [hnk]
      go_wp2_with fail
      go_loopw [13, 77] (fun out i wx => ∃ (k : Nat) (outl : List (Sd × Int)), k ≤ nk ∧ i = .int .i64 k ∧ outl.length = k ∧ wx.ownsRow N6 44 8 out outl.length (flatE encW outl) ∧ OutAt L (ks'.take k) outl ∧ Below N6 w6 wx) (fun _ i _ => nk - (intOf i).toNat)
      case atStart => exact ⟨0, [], Nat.zero_le _, rfl, rfl, World.ownsRow_nil _ _ _ _, by simpa using OutAt.nil L, Below.refl _ _⟩
      case round =>
        obtain ⟨k, outl, hk, rfl, hol, horow, hoat, hbx⟩ := hrel
        by_cases hlk : k < nk
        · obtain ⟨key, hkey⟩ : ∃ key, ks'[k]? = some key := ⟨_, List.getElem?_eq_getElem (by omega)⟩
          obtain ⟨v, hfv, hne, hks⟩ := hgot.out key (List.mem_of_getElem? hkey)
          obtain ⟨wo, hwo⟩ : ∃ W, W = wr := ⟨_, rfl⟩
          subst hwo
          obtain ⟨g0, hA0, hg0⟩ := hA (by omega)
          subst hA0
          have ckey := (hbx.cell (p := ⟨g0, k, none⟩) (by show g0 < _; omega)).trans (hKS.out g0 ck rfl (by omega) k key hkey)
          have c7' : Boxed wo (Q + 1) 91 (.map (some Q)) := (hbx.block (Q + 1) (by omega)).trans b7
          have c7 := c7'.cell
          have hkm : key.size ≤ maxLen := by unfold maxLen; omega
          have hlk1 := hHLK.out wo key v hbx hfv hkm
          have hk0 : (0 : Int) ≤ k := by omega
          have hkk : (k : Int) < nk := by omega
          have hgl : (byF L L key).length ≤ 8000 := by have := byF_len L L key; omega
          have hgok : ∀ s, s ∈ byF L L key → SdOK s := fun s hs => HOK.out s (mem_byF hs)
          have hls := hLst.out wo key v hbx hfv
          obtain ⟨Av, cv, rfl, -, -, -⟩ := id hls
          have HLS := Lib.hid hls
          have hbs := hbx.size
          clear hls
          go_wp2_with fail
          have hfn := heap_alloc_new wo (.cells #[.func (.func 53) #[] #[], .func (.func 54) #[] #[], .func (.func 55) #[] #[], .func (.func 56) #[] #[]] 97)
          have hfb := (Below.refl wo.heap.size wo).alloc (Nat.le_refl _) (.cells #[.func (.func 53) #[] #[], .func (.func 54) #[] #[], .func (.func 55) #[] #[], .func (.func 56) #[] #[]] 97)
          have hfs := size_alloc' wo (.cells #[.func (.func 53) #[] #[], .func (.func 54) #[] #[], .func (.func 55) #[] #[], .func (.func 56) #[] #[]] 97)
          obtain ⟨w8, hw8⟩ : ∃ W, wo.alloc (.cells #[.func (.func 53) #[] #[], .func (.func 54) #[] #[], .func (.func 55) #[] #[], .func (.func 56) #[] #[]] 97) = W := ⟨_, rfl⟩
          rw [hw8] at hfn hfb hfs ⊢
          obtain ⟨Y, hY⟩ : ∃ Y, wo.heap.size = Y := ⟨_, rfl⟩
          rw [hY] at hfn hfb hfs hbs ⊢
          refine (least_sh _ (byF L L key) hgok hne w8 (HLS.out.below (by rw [hY]; exact hfb)) (by omega) Y (by omega) (fun j hj => by
            have : j = 0 ∨ j = 1 ∨ j = 2 ∨ j = 3 := by omega
            rcases this with rfl | rfl | rfl | rfl <;> simp [World.cell?, hfn, ordF])).mono ?_
          rintro e w9 ⟨mb, rfl, hbest, hb9⟩
          have hb9 : Below Y wo w9 := hfb.trans (hb9.mono (by omega))
          have hw9 := hb9.size
          clear hw8 hfn hfb
          obtain ⟨mc, mn, mkey, mval, mtime, mtrust, mback⟩ := mb
          dsimp only [valSd]
          go_upto_region 21 with fail
          have hx16 := heap_alloc_new w9 (.cells #[.int .i64 mc, .int .i64 mn, .string mkey, .string mval, .int .i64 mtime, .int .i64 mtrust, .int .i64 mback] 38)
          have hxb := (Below.refl w9.heap.size w9).alloc (Nat.le_refl _) (.cells #[.int .i64 mc, .int .i64 mn, .string mkey, .string mval, .int .i64 mtime, .int .i64 mtrust, .int .i64 mback] 38)
          have hxs := size_alloc' w9 (.cells #[.int .i64 mc, .int .i64 mn, .string mkey, .string mval, .int .i64 mtime, .int .i64 mtrust, .int .i64 mback] 38)
          obtain ⟨w10, hw10⟩ : ∃ W, w9.alloc (.cells #[.int .i64 mc, .int .i64 mn, .string mkey, .string mval, .int .i64 mtime, .int .i64 mtrust, .int .i64 mback] 38) = W := ⟨_, rfl⟩
          rw [hw10] at hx16 hxb hxs ⊢
          clear hw10
          obtain ⟨X, hX⟩ : ∃ X, w9.heap.size = X := ⟨_, rfl⟩
          rw [hX] at hx16 hxb hxs hw9 ⊢
          have hb10 : Below Y wo w10 := hb9.trans (hxb.mono (by omega))
          go_upto_region 22 with fail
          have hma := MapAt.made (M := valK) w10
          have hmb := (Below.refl w10.heap.size w10).alloc (Nat.le_refl _) (.map #[] 0)
          have hms := size_alloc' w10 (.map #[] 0)
          obtain ⟨w11, hw11⟩ : ∃ W, w10.alloc (.map #[] 0) = W := ⟨_, rfl⟩
          rw [hw11] at hma hmb hms ⊢
          clear hw11
          rw [show w10.heap.size = X + 1 by omega] at hma hmb hms
          have hb11 : Below Y wo w11 := hb10.trans (hmb.mono (by omega))
          have hx16 : BoxS w11 X ⟨mc, mn, mkey, mval, mtime, mtrust, mback⟩ := (hmb.block X (by omega)).trans hx16
          have c7 := (hb11.cell (p := ⟨Q + 1, 0, none⟩) (by show Q + 1 < _; omega)).trans c7
          have hlk1 := hHLK.out w11 key _ (hbx.trans (hb11.mono (by omega))) hfv hkm
          have HX := Lib.hid hx16
          have HM := Lib.hid hma
          have HB := Lib.hid hb11
          have HBE := Lib.hid hbest
          have HNE := Lib.hid hne
          have hlsN := HLS.out.below (by rw [hY]; exact hb11)
          have HLN := Lib.hid hlsN
          clear hx16 hma hb11 hbest hne hlsN hb10 hb9 hxb hmb HLS
          obtain ⟨nl, hnl⟩ : ∃ n, (byF L L key).length = n := ⟨_, rfl⟩
          rw [hnl] at hgl hlk1 ⊢
          have HNL := Lib.hid hnl
          clear hnl
          go_wp2_with fail
          go_loopw [91] (fun i wy => ∃ (j : Nat) (vs : List ByteArray), j ≤ nl ∧ i = .int .i64 j ∧ MapAt valK wy (X + 1) vs.length (valF vs) ∧ ValsAt ((byF L L key).take j) vs ∧ Below (X + 1) w11 wy) (fun i _ => nl - (intOf i).toNat)
          case atStart => exact ⟨0, [], Nat.zero_le _, rfl, HM.out, ValsAt.nil, Below.refl _ _⟩
          case round =>
            obtain ⟨j, vs, hj, rfl, hmv, hvs, hbv⟩ := hrel
            have hbvs := hbv.size
            by_cases hlj : j < nl
            · obtain ⟨s, hs⟩ : ∃ s, (byF L L key)[j]? = some s := ⟨_, List.getElem?_eq_getElem (by rw [HNL.out]; exact hlj)⟩
              obtain ⟨bb, ob, rfl, hbl, hcc⟩ : ∃ b off, Av = some ⟨b, off, none⟩ ∧ b < w11.heap.size ∧ ∀ (j i : Nat) (x : Sd) (u : Value), (byF L L key)[j]? = some x → (encSd x)[i]? = some u → w11.cell? ⟨b, off + j * 7 + i, none⟩ = some u := by
                obtain ⟨A', c', e, -, -, h3⟩ := HLN.out
                cases e
                obtain ⟨b, off, e', hb, hc⟩ := h3 (by have := HNL.out; omega)
                exact ⟨b, off, e', hb, hc⟩
              have hbX : bb < X + 1 := by
                obtain ⟨g, h1, -, h2⟩ : ∃ g, (Value.slice (some ⟨bb, ob, none⟩) (byF L L key).length cv).ownBlock = some g ∧ Q + 6 ≤ g ∧ g < N6 := hOwn.out key _ hfv
                simp [Value.ownBlock] at h1
                omega
              have hsok := (hgok s (List.mem_of_getElem? hs)).val
              have hvl := hvs.le
              rw [List.length_take] at hvl
              have hstep := take_succ' hs
              have hcc0 := fun i u h => (hbv.cell (p := ⟨bb, ob + j * 7 + i, none⟩) hbX).trans (hcc j i s u hs h)
              obtain ⟨sc, sn, skey, sval, stime, strust, sback⟩ := s
              have y0 := hcc0 0 _ rfl
              have y1 := hcc0 1 _ rfl
              have y2 := hcc0 2 _ rfl
              have y3 := hcc0 3 _ rfl
              have y4 := hcc0 4 _ rfl
              have y5 := hcc0 5 _ rfl
              have y6 := hcc0 6 _ rfl
              simp only [Nat.add_zero] at y0
              clear hcc hcc0
              have hj1 : (j : Int) < nl := by omega
              have hj0 : (0 : Int) ≤ j := by omega
              dsimp only at hsok
              have hbw := (Below.refl wr.heap.size wr).alloc (Nat.le_refl _) (.cells #[.int .i64 sc, .int .i64 sn, .string skey, .string sval, .int .i64 stime, .int .i64 strust, .int .i64 sback] 38)
              have hmv2 := hmv.below hbw
              go_wp2_with (at_mapUpdate; go_loud (refine wpList_putM valK_law _ rfl _ _ _ rfl rfl hmv2 (by unfold maxLen; omega) sval (by show sval.size ≤ maxLen; unfold maxLen; omega) rfl (.bool true) rfl ?_); intro wq hmq hgq)
              have hbq : Below (X + 1) w11 wq := (hbv.alloc (by omega) _).grown hgq (by simp; omega) (fun r e => by have := Option.some.inj e; omega)
              refine ⟨?_, by simp [intOf]; omega⟩
              by_cases hmem : sval ∈ vs
              · rw [if_pos (valF_some.2 hmem), valF_old hmem] at hmq
                exact ⟨j + 1, vs, by omega, by go_num, hmq, by rw [hstep]; exact hvs.old hmem, hbq⟩
              · rw [if_neg (fun h => hmem (valF_some.1 h)), valF_new] at hmq
                refine ⟨j + 1, vs ++ [sval], by omega, by go_num, ?_, by rw [hstep]; exact hvs.new hmem, hbq⟩
                rw [List.length_append]
                exact hmq
            · obtain rfl : j = nl := by omega
              have hnl := HNL.out
              rw [List.take_of_length_le (by omega)] at hvs
              have hvl := hvs.le
              obtain ⟨x0, x1, x2, x3, x4, x5, x6⟩ := (HX.out.below hbv (by omega)).cells
              dsimp only at x0 x1 x2 x3 x4 x5 x6
              have hlenm : (Builtin.len_ #[98] 3 #[.map (some (X + 1))]).run Try.prog wr = .ok (.int .i64 vs.length) wr := hmv.len valK_law _
              have hjj : ((j : Int) < j) = False := by simp
              have hws : IntKind.i64.wrap ((vs.length : Int) - 1) = vs.length - 1 := wrapK _ (by omega) (by omega)
              have hbe := HB.out
              have hbe : Below Y wo wr := hbe.trans (hbv.mono (by omega))
              have horow2 := ownsBelow horow (by rw [hY]; exact hbe)
              have hol8 : outl.length ≤ 8000 := by omega
              have hwrs := hbe.size
              go_wp2_with (at_builtin; go_loud (refine wpList_append_lies _ rfl _ _ _ rfl N6 44 i3 _ 8 80 Try.underlying32 hi3 hz30 hz31 hz32 rfl (by omega) u13 outl.length (flatE encW outl) rfl (horow2.alloc _) ⟨wr.heap.size, 0, none⟩ 1 1 (encW (⟨mc, mn, mkey, mval, mtime, mtrust, mback⟩, (vs.length : Int) - 1)) rfl rfl (newsLit (cs := #[.int .i64 mc, .int .i64 mn, .string mkey, .string mval, .int .i64 mtime, .int .i64 mtrust, .int .i64 mback, .int .i64 ((vs.length : Int) - 1)]) rfl) (by simp [encW, encSd, Value.oneCell']) (by omega) (by unfold maxLen; omega) (by omega) (by simp; omega) (wr.heap.size + 1) (by simp) ?_); intro gg cap5 w12 hown12 hgrow12 hat12 hlt12)
              refine ⟨⟨k + 1, outl ++ [(⟨mc, mn, mkey, mval, mtime, mtrust, mback⟩, (vs.length : Int) - 1)], by omega, by go_num, by rw [List.length_append, hol]; rfl, ?_, ?_, ?_⟩, by simp [intOf]; omega⟩
              · rw [flatE_append, List.length_append, List.length_singleton]
                rw [hol] at hown12 ⊢
                exact hown12
              · rw [take_succ' hkey]
                have h1 := HBE.out
                rw [byF_all] at h1 hvs
                exact hoat.snoc h1 hvs
              · have hr12 : ∀ r, u13.ownBlock = some r → N6 ≤ r := fun r e => (ownBlock_lt horow e).1
                exact ((hbx.trans (hbe.mono (by omega))).alloc (by omega) _).grown hgrow12 (by simp; omega) hr12
        · obtain rfl : k = nk := by omega
          rw [List.take_of_length_le (by omega)] at hoat
          have hkk : ((k : Int) < k) = False := by simp
          have hKr2 := (hbx.block D2 (by rw [← hN6]; exact (Array.getElem?_eq_some_iff.1 hK2).1)).trans hK2
          have hKr := (hbx.block D (by omega)).trans hK
          have gr : Below N0 w wr := g04.trans (hbx.mono (by omega))
          have hbs := hbx.size
          go_wp2_with fail
          refine ⟨by simp, .inl ⟨_, _, rfl, run_takeDeferred hKr2, ?_⟩⟩
          have hKr' := (World.putObj_heap_other (w := wr) (r := D2) (o := .deferred none) (k := D) (by omega)).trans hKr
          refine ⟨by simp, .inl ⟨_, _, rfl, run_takeDeferred hKr', ?_⟩⟩
          refine ⟨_, results_tmp rfl _ _ _, u13, outl, rfl, ?_, ?_, ?_⟩
          · rw [hN0]
            exact ownsMono (ownsRow_putObj (ownsRow_putObj horow _ hKr2 rfl) _ hKr' rfl) (by omega)
          · exact shows_of q5 hmem' hsort' hoat
          · rw [hN0]
            refine gr.trans (Below.trans (b := wr.putObj D2 (.deferred none)) ?_ ?_)
            · exact belowK_b (w := w) (by omega) wr D2 _ _ (by omega) hKr2 rfl rfl
            · exact belowK_b (w := w) (by omega) _ D _ _ (by omega) hKr' rfl rfl
    case stop2 =>
      rintro D c pre W _ _ h _
      exact h.elim
  case stop =>
    rintro D c pre W _ _ h _
    exact h.elim
end Go.Proofs.Ytngigogaiheckaa
