/- share: add. -/
import Derived.Test.YtngigogaiheckaaShNow
namespace Go.Proofs.Ytngigogaiheckaa
open Go.RowKit Go.Lib Go.Maps

theorem wpList_put_there (w : World) {ops : Array Oper} {rest : List Oper} {o : Oper} {a : Act} {Q : Exit → Act → World → Prop}
    (hg : o.guard = none) (mo x v : Operand) (hop : o.op = Op.mapUpdate 68 mo x v) (m n : Nat) (l : List Sd) (s : Sd) (hm : a.eval mo = .map (some m)) (h : There w m n l) (hn : n < maxLen) (hs : SdOK s) (hno : hasP l s.c s.n = false)
    (hx : a.eval x = .agg #[.int .i64 (s.c - 1), .int .i64 s.n]) (hv : a.eval v = valSd s)
    (hK : ∀ w', There w' m (n + 1) (l ++ [s]) → w.grownBy w' (some m) → wpList Try.prog ops Q rest (a.put o.dst undef) w') :
    wpList Try.prog ops Q (o :: rest) a w := by
  obtain ⟨D, h1, h2⟩ := h
  have ic : isI64 (s.c - 1) := isI64_of (by have := hs.c; omega)
  have in' : isI64 s.n := isI64_of (by have := hs.n; omega)
  refine wpList_mapUpdate_own w hg mo x v 68 hop 70 38 lawP Try.underlying68 raw m n D hm h1 hn _ _ (placeK (s.c - 1) s.n) hx hv (keyOfPl ic in') (.held (valSd s)) [] rfl fun w' hw' hg' => hK w' ⟨_, hw', There.put h1.isMap h2 hs hno⟩ hg'

theorem infoP : (Try.prog.info? 70).map (fun i => (i.zero, i.size, i.bytes)) = some (some (.agg #[.int .i64 0, .int .i64 0]), 2, 16) := by kernel_rfl
theorem infoV : (Try.prog.info? 62).map (fun i => (i.zero, i.size, i.bytes)) = some (some (.agg #[.int .i64 0, .int .i64 0, .int .i64 0, .int .i64 0, .int .i64 0, .int .i64 0, .int .i64 0, .int .i64 0]), 8, 64) := by kernel_rfl

def arrV (v : Nat → Nat) : Array Value := #[.int .i64 (v 0), .int .i64 (v 1), .int .i64 (v 2), .int .i64 (v 3), .int .i64 (v 4), .int .i64 (v 5), .int .i64 (v 6), .int .i64 (v 7)]
def updN (v : Nat → Nat) (c x : Nat) : Nat → Nat := fun j => if j = c then x else v j
theorem updN_same (v : Nat → Nat) (c x : Nat) : updN v c x c = x := by simp [updN]
theorem updN_twice (v : Nat → Nat) (c x y : Nat) : updN (updN v c x) c y = updN v c y := by
  funext j
  simp only [updN]
  split <;> rfl
theorem updN_self (v : Nat → Nat) (c : Nat) : updN v c (v c) = v := by
  funext j
  simp only [updN]
  split
  · rename_i h; rw [h]
  · rfl
theorem arrV_set (v : Nat → Nat) {c : Nat} (x : Nat) (h : c < 8) : (arrV v).setIfInBounds c (.int .i64 x) = arrV (updN v c x) := by
  have : c = 0 ∨ c = 1 ∨ c = 2 ∨ c = 3 ∨ c = 4 ∨ c = 5 ∨ c = 6 ∨ c = 7 := by omega
  rcases this with rfl | rfl | rfl | rfl | rfl | rfl | rfl | rfl <;> rfl
theorem arrV_get (v : Nat → Nat) {c : Nat} (h : c < 8) : (arrV v)[c]? = some (.int .i64 (v c)) := by
  have : c = 0 ∨ c = 1 ∨ c = 2 ∨ c = 3 ∨ c = 4 ∨ c = 5 ∨ c = 6 ∨ c = 7 := by omega
  rcases this with rfl | rfl | rfl | rfl | rfl | rfl | rfl | rfl <;> rfl
/-- the number in a cell -/
def cellN (w : World) (a : Addr) : Nat := match w.cell? a with
  | some (.int _ n) => n.toNat
  | _ => 0
theorem cellN_of {w : World} {a : Addr} {x : Nat} (h : w.cell? a = some (.int .i64 x)) : cellN w a = x := by simp [cellN, h]
/-- block X is a vector -/
def VecAt (w : World) (X : Nat) (v : Nat → Nat) : Prop := w.heap[X]? = some (.cells (arrV v) 62 (0, 0))
theorem VecAt.cell {w : World} {X : Nat} {v : Nat → Nat} (h : VecAt w X v) {c : Nat} (hc : c < 8) : w.cell? ⟨X, c, none⟩ = some (.int .i64 (v c)) := by
  unfold VecAt at h
  simp only [World.cell?, h]
  simpa using arrV_get v hc
theorem VecAt.frozen {w : World} {X : Nat} {v : Nat → Nat} (h : VecAt w X v) (c : Nat) : w.frozen? ⟨X, c, none⟩ = false := by
  unfold VecAt at h
  simp [World.frozen?, h]
theorem VecAt.set {w : World} {X : Nat} {v : Nat → Nat} (h : VecAt w X v) {c : Nat} (hc : c < 8) (x : Nat) : VecAt (w.setCell ⟨X, c, none⟩ (.int .i64 x)) X (updN v c x) := by
  unfold VecAt at h ⊢
  have hl := (Array.getElem?_eq_some_iff.1 h).1
  simp only [World.setCell, Array.getElem?_modify, h]
  simp [arrV_set v x hc]
theorem VecAt.of_block {w w' : World} {X : Nat} {v : Nat → Nat} (h : VecAt w X v) (hb : w'.heap[X]? = w.heap[X]?) : VecAt w' X v := hb.trans h
theorem VecAt.lt {w : World} {X : Nat} {v : Nat → Nat} (h : VecAt w X v) : X < w.heap.size := (Array.getElem?_eq_some_iff.1 h).1
theorem grownDrew {w w' : World} {row : Option Nat} (h : w.drew.grownBy w' row) : w.grownBy w' row := ⟨h.os, h.tape, h.output, h.size, h.block⟩
/-- the arrivals are appended to, and laid back -/
theorem add_arrive {w w6 w7 : World} {F : Nat → Prop} {p m B X g cap : Nat} {va vk : Value} {cen : Int} {arr lm : List Sd} {o oX oY : Obj} {s : Sd} (h0 : PicAt w F p m va vk cen arr) (h6 : PicP w6 F p m va vk cen lm arr arr) (hE : Ext F w w6) (hB : w.heap.size = B) (hz : X + 1 + 1 ≤ w6.heap.size) (hBX : B ≤ X)
    (rX : w6.heap[X]? = some oX) (rY : w6.heap[X + 1]? = some oY) (hg7 : (w6.alloc o).drew.grownBy w7 va.ownBlock) (hown7 : w7.ownsRow 0 70 2 (.slice (some ⟨g, 0, none⟩) (arr.length + 1) cap) (arr.length + 1) (flatE encP (arr.map placeOf) ++ encP (placeOf s))) (hat7 : va.ownBlock = some g ∨ g = w6.heap.size + 1) :
    ∃ va', va'.ownBlock ≠ some (X + 1) ∧ PicP (w7.setCell ⟨p, 2, none⟩ (.slice (some ⟨g, 0, none⟩) (arr.length + 1) cap)) (Fr F B) p m va' vk cen lm (arr ++ [s]) arr ∧ Ext F w (w7.setCell ⟨p, 2, none⟩ (.slice (some ⟨g, 0, none⟩) (arr.length + 1) cap)) ∧
      (w7.setCell ⟨p, 2, none⟩ (.slice (some ⟨g, 0, none⟩) (arr.length + 1) cap)).heap[X]? = some oX ∧ (w7.setCell ⟨p, 2, none⟩ (.slice (some ⟨g, 0, none⟩) (arr.length + 1) cap)).heap[X + 1]? = some oY ∧ X + 1 + 1 ≤ (w7.setCell ⟨p, 2, none⟩ (.slice (some ⟨g, 0, none⟩) (arr.length + 1) cap)).heap.size := by
  have hg := grownDrew hg7
  have h6a := h6.alloc o
  have hE7 : Ext F w w7 := (hE.thenBelow ((Below.refl _ _).alloc (Nat.le_refl _) o)).grown hg (fun r hr => h6.fa r hr)
  have hz7 := hg.size
  simp only [World.size_alloc] at hz7
  have hne : ∀ k, B ≤ k → va.ownBlock ≠ some k := fun k hk e => by have := (ownBlock_lt h0.ra e).2; omega
  have hpB : p < B := by have := h0.lt; omega
  have hk : ∀ k, B ≤ k → k < w6.heap.size → (w7.setCell ⟨p, 2, none⟩ (.slice (some ⟨g, 0, none⟩) (arr.length + 1) cap)).heap[k]? = w6.heap[k]? := fun k h1 h2 => by
    rw [Below.heap_setCell _ _ _ _ (by show k ≠ p; omega), hg.block k (by simp; omega) (fun e => hne k h1 e.symm), Below.heap_alloc _ _ _ h2]
  refine ⟨_, ?_, h6a.arrive hg hown7 ?_ (fun b hb => Or.inl hb) ?_, hE7.setCell (Or.inl h0.fp) _, (hk X hBX (by omega)).trans rX, (hk (X + 1) (by omega) (by omega)).trans rY, by simp; omega⟩
  · intro e2
    simp only [Value.ownBlock, Option.some.injEq] at e2
    rcases hat7 with e | e
    · exact hne g (by omega) e
    · omega
  · rcases hat7 with e | e
    · exact .inl e
    · exact .inr (by simp; omega)
  · rcases hat7 with e | e
    · exact .inl (h6.fa g e)
    · exact .inr (by omega)

/-- what is known is appended to, and laid back -/
theorem add_learn {w wc w7 : World} {F : Nat → Prop} {p m B g cap : Nat} {va vk : Value} {cen : Int} {arr ar1 : List Sd} {o : Obj} {s : Sd} (h0 : F p) (hkF : ∀ b, vk.ownBlock = some b → F b) (hP : PicP wc (Fr F B) p m va vk cen ar1 ar1 arr) (hE : Ext F w wc) (hB : w.heap.size = B) (har : arr ++ [s] = ar1)
    (hg7 : (wc.alloc o).drew.grownBy w7 vk.ownBlock) (hown7 : w7.ownsRow 0 62 8 (.slice (some ⟨g, 0, none⟩) (arr.length + 1 + 1) cap) (arr.length + 1 + 1) (flatE encV (knowns arr) ++ encV (knF ar1))) (hat7 : vk.ownBlock = some g ∨ g = wc.heap.size + 1) :
    Pic (w7.setCell ⟨p, 3, none⟩ (.slice (some ⟨g, 0, none⟩) (arr.length + 1 + 1) cap)) (Gr F w (w7.setCell ⟨p, 3, none⟩ (.slice (some ⟨g, 0, none⟩) (arr.length + 1 + 1) cap))) p cen ar1 ∧ Ext F w (w7.setCell ⟨p, 3, none⟩ (.slice (some ⟨g, 0, none⟩) (arr.length + 1 + 1) cap)) := by
  subst har
  have hg := grownDrew hg7
  have hPa := hP.alloc o
  have hE7 : Ext F w w7 := (hE.thenBelow ((Below.refl _ _).alloc (Nat.le_refl _) o)).grown hg hkF
  have hz := hE.size
  refine ⟨⟨_, _, _, (hPa.learn (F' := Fr F B) (s := s) hg hown7 ?_ (fun _ h => h) ?_).fin hB⟩, hE7.setCell (.inl h0) _⟩
  · rcases hat7 with e | e
    · exact .inl e
    · exact .inr (by simp; omega)
  · rcases hat7 with e | e
    · exact hPa.fk g e
    · exact .inr (by omega)

set_option maxRecDepth 100000 in
set_option maxHeartbeats 4000000 in
theorem add_sh (w : World) {F : Nat → Prop} {p m : Nat} {va vk : Value} {cen : Int} {arr : List Sd} (h : PicAt w F p m va vk cen arr) (s : Sd) (hs : SdOK s) (hnum : Nums arr) (hno : hasP arr s.c s.n = false) (hl : arr.length ≤ 1000) :
    Calls Try.prog 35 #[.pointer (some ⟨p, 0, none⟩), valSd s] w fun e w' => e = .returned (.tuple #[]) ∧ Pic w' (Gr F w w') p cen (arr ++ [s]) ∧ Ext F w w' := by
  obtain ⟨c0, hc0, hc8⟩ : ∃ c0 : Nat, s.c - 1 = c0 ∧ c0 < 8 := ⟨(s.c - 1).toNat, by have := hs.c; omega, by have := hs.c; omega⟩
  have hof := fun W => of_sh s W (by have := hs.c; omega)
  rw [hc0] at hof
  have HO := Lib.hid hof
  have HP := Lib.hid h
  have HS := Lib.hid hs
  have HN := Lib.hid hno
  have HU := Lib.hid hnum
  clear hof h hs hno hnum
  obtain ⟨sc, sn, key, val, time, trust, back⟩ := s
  dsimp only [valSd] at hc0 HO ⊢
  go_enter Try.func35, Try.ntmps35
  go_wp2_with fail
  obtain ⟨WB, hWB⟩ : ∃ W, w.alloc (.cells #[.int .i64 sc, .int .i64 sn, .string key, .string val, .int .i64 time, .int .i64 trust, .int .i64 back] 38) = W := ⟨_, rfl⟩
  have HP1 := Lib.hid (HP.out.alloc (.cells #[.int .i64 sc, .int .i64 sn, .string key, .string val, .int .i64 time, .int .i64 trust, .int .i64 back] 38))
  have hbB := (Below.refl w.heap.size w).alloc (Nat.le_refl _) (.cells #[.int .i64 sc, .int .i64 sn, .string key, .string val, .int .i64 time, .int .i64 trust, .int .i64 back] 38)
  have hrB : WB.heap[w.heap.size]? = some (.cells #[.int .i64 sc, .int .i64 sn, .string key, .string val, .int .i64 time, .int .i64 trust, .int .i64 back] 38 (0, 0)) := by rw [← hWB]; exact heap_alloc_new w _
  have hzB : WB.heap.size = w.heap.size + 1 := by rw [← hWB]; simp
  rw [hWB] at HP1 hbB ⊢
  clear hWB
  obtain ⟨B, hB⟩ : ∃ B, w.heap.size = B := ⟨_, rfl⟩
  rw [hB] at hbB hrB hzB ⊢
  have boxc : ∀ (W : World), W.heap[B]? = WB.heap[B]? → ∀ i u, (#[.int .i64 sc, .int .i64 sn, .string key, .string val, .int .i64 time, .int .i64 trust, .int .i64 back] : Array Value)[i]? = some u → W.cell? ⟨B, i, none⟩ = some u := fun W hW i u hu => by simp [World.cell?, hW, hrB, hu]
  refine (HO.out _).mono ?_
  rintro e w1 ⟨rfl, hb1⟩
  have HP2 := Lib.hid (HP1.out.below hb1)
  have hbw1 := hbB.trans (hb1.mono (by omega))
  have hr1 := (hb1.block B (by omega)).trans hrB
  have hz1 := hb1.size
  clear hb1 HP1 hrB hbB
  go_wp2_with fail
  refine (now_sh _ HP2.out (by omega)).mono ?_
  rintro e w2 ⟨rfl, hb2⟩
  have HP3 := Lib.hid (HP2.out.below hb2)
  have hbw2 := hbw1.trans (hb2.mono (by omega))
  have hr2 := (hb2.block B (by omega)).trans hr1
  have hz2 := hb2.size
  clear hb2 HP2 hr1 hbw1
  obtain ⟨v, hv⟩ : ∃ v, knF arr = v := ⟨_, rfl⟩
  rw [hv]
  unfold valV
  go_wp2_with fail
  have hp2 := HP3.out.lt
  have hm2 := HP3.out.mp.lt
  have HP4 := Lib.hid ((HP3.out.alloc (.cells #[.int .i64 c0, .int .i64 sn] 70)).alloc (.cells #[.int .i64 (v 0), .int .i64 (v 1), .int .i64 (v 2), .int .i64 (v 3), .int .i64 (v 4), .int .i64 (v 5), .int .i64 (v 6), .int .i64 (v 7)] 62))
  have hbw4 := (hbw2.alloc (by omega) (.cells #[.int .i64 c0, .int .i64 sn] 70)).alloc (by simp; omega) (.cells #[.int .i64 (v 0), .int .i64 (v 1), .int .i64 (v 2), .int .i64 (v 3), .int .i64 (v 4), .int .i64 (v 5), .int .i64 (v 6), .int .i64 (v 7)] 62)
  obtain ⟨W4, hW4⟩ : ∃ W, (w2.alloc (.cells #[.int .i64 c0, .int .i64 sn] 70)).alloc (.cells #[.int .i64 (v 0), .int .i64 (v 1), .int .i64 (v 2), .int .i64 (v 3), .int .i64 (v 4), .int .i64 (v 5), .int .i64 (v 6), .int .i64 (v 7)] 62) = W := ⟨_, rfl⟩
  have hz4 : W4.heap.size = w2.heap.size + 1 + 1 := by rw [← hW4]; simp
  have rB : W4.heap[B]? = w2.heap[B]? := by rw [← hW4, Below.heap_alloc _ _ _ (by simp; omega), Below.heap_alloc _ _ _ (by omega)]
  have rX : W4.heap[w2.heap.size]? = some (.cells #[.int .i64 c0, .int .i64 sn] 70 (0, 0)) := by rw [← hW4, Below.heap_alloc _ _ _ (by simp)]; exact heap_alloc_new w2 _
  have rY : W4.heap[w2.heap.size + 1]? = some (.cells #[.int .i64 (v 0), .int .i64 (v 1), .int .i64 (v 2), .int .i64 (v 3), .int .i64 (v 4), .int .i64 (v 5), .int .i64 (v 6), .int .i64 (v 7)] 62 (0, 0)) := by
    rw [← hW4]
    have := heap_alloc_new (w2.alloc (.cells #[.int .i64 c0, .int .i64 sn] 70)) (.cells #[.int .i64 (v 0), .int .i64 (v 1), .int .i64 (v 2), .int .i64 (v 3), .int .i64 (v 4), .int .i64 (v 5), .int .i64 (v 6), .int .i64 (v 7)] 62)
    simpa using this
  rw [hW4] at HP4 hbw4 ⊢
  rw [hr2] at rB
  clear hW4 HP3 hbw2 hr2
  obtain ⟨X, hX⟩ : ∃ X, w2.heap.size = X := ⟨_, rfl⟩
  rw [hX] at rX rY hz4 hp2 hm2 hz2 ⊢
  clear hX
  have hm4 := HP4.out.mp.lt
  have k1 := HP4.out.c1
  have x0 : W4.cell? ⟨X, 0, none⟩ = some (.int .i64 c0) := by simp [World.cell?, rX]
  have x1 : W4.cell? ⟨X, 1, none⟩ = some (.int .i64 sn) := by simp [World.cell?, rX]
  have d0 : W4.cell? ⟨B, 0, none⟩ = some (.int .i64 sc) := by simp [World.cell?, rB]
  have d1 : W4.cell? ⟨B, 1, none⟩ = some (.int .i64 sn) := by simp [World.cell?, rB]
  have d2 : W4.cell? ⟨B, 2, none⟩ = some (.string key) := by simp [World.cell?, rB]
  have d3 : W4.cell? ⟨B, 3, none⟩ = some (.string val) := by simp [World.cell?, rB]
  have d4 : W4.cell? ⟨B, 4, none⟩ = some (.int .i64 time) := by simp [World.cell?, rB]
  have d5 : W4.cell? ⟨B, 5, none⟩ = some (.int .i64 trust) := by simp [World.cell?, rB]
  have d6 : W4.cell? ⟨B, 6, none⟩ = some (.int .i64 back) := by simp [World.cell?, rB]
  go_still_tail 6, (by kernel_rfl)
  change wpList _ _ _ _ _ W4.drew
  have HP5 : PicAt W4.drew F p m va vk cen arr := HP4.out.keep (Nat.le_refl _) (fun _ _ _ => rfl) fun _ h => h
  have hE5 : Ext F w W4.drew := Ext.of_below (by rw [hB]; exact belowDrew hbw4)
  have rX : W4.drew.heap[X]? = _ := rX
  have rY : W4.drew.heap[X + 1]? = _ := rY
  have hz5 : W4.drew.heap.size = X + 1 + 1 := hz4
  obtain ⟨W5, hW5⟩ : ∃ W, W4.drew = W := ⟨_, rfl⟩
  rw [hW5] at HP5 hE5 rX rY hz5 ⊢
  clear hW5 d0 d1 d2 d3 d4 d5 d6 x0 x1 k1 HP4 hbw4 rB hz4 hm4
  have HP5 := Lib.hid HP5
  go_wp2_with (at_mapUpdate; refine wpList_put_there _ rfl _ _ _ rfl m arr.length arr ⟨sc, sn, key, val, time, trust, back⟩ rfl HP5.out.mp (by unfold maxLen; omega) HS.out HN.out (by dsimp only; rw [hc0]; rfl) rfl ?_; intro w6 ht6 hg6)
  have HP6 := Lib.hid (HP5.out.put hg6 ht6)
  have hE6 := hE5.grown hg6 (fun r hr => by cases hr; exact HP5.out.fm)
  have hXm : X ≠ m := by omega
  have rX := (hg6.block X (by omega) (fun e => hXm (Option.some.inj e))).trans rX
  have rY := (hg6.block (X + 1) (by omega) (fun e => by have := Option.some.inj e; omega)).trans rY
  have hz6 := hg6.size
  rw [hz5] at hz6
  clear hE5 hg6 ht6 HP5 hz5 boxc hXm
  obtain ⟨nn, hnn⟩ : ∃ n, arr.length = n := ⟨_, rfl⟩
  have hra := HP6.out.ra
  have hrl := HP6.out.lt
  have k2 := HP6.out.c2
  have kf := HP6.out.f2
  have hap := HP6.out.ap
  have hmpl := HP6.out.mp.lt
  rw [hnn] at hra hl
  obtain ⟨i0, hi, hz0, hz1', hz2'⟩ := info_parts infoP
  have x0 : w6.cell? ⟨X, 0, none⟩ = some (.int .i64 c0) := by simp [World.cell?, rX]
  have x1 : w6.cell? ⟨X, 1, none⟩ = some (.int .i64 sn) := by simp [World.cell?, rX]
  obtain ⟨LL, hLL⟩ : ∃ L, flatE encP (arr.map placeOf) = L := ⟨_, rfl⟩
  rw [hLL] at hra
  have H6 := Lib.hid hE6
  have RX := Lib.hid rX
  have RY := Lib.hid rY
  clear hE6 rX rY
  go_frame
  go_cut [27] from 18 to 27 (fun o wx => o = .pointer (some ⟨p, 2, none⟩) ∧ ∃ va', va'.ownBlock ≠ some (X + 1) ∧ PicP wx (Fr F B) p m va' vk cen (arr ++ [⟨sc, sn, key, val, time, trust, back⟩]) (arr ++ [⟨sc, sn, key, val, time, trust, back⟩]) arr ∧ Ext F w wx ∧
    wx.heap[X]? = some (.cells #[.int .i64 c0, .int .i64 sn] 70 (0, 0)) ∧ wx.heap[X + 1]? = some (.cells #[.int .i64 (v 0), .int .i64 (v 1), .int .i64 (v 2), .int .i64 (v 3), .int .i64 (v 4), .int .i64 (v 5), .int .i64 (v 6), .int .i64 (v 7)] 62 (0, 0)) ∧ X + 1 + 1 ≤ wx.heap.size)
  case first =>
    go_region_law (first | (refine step_append_lies _ (by rfl) _ _ _ (by rfl) 0 70 i0 _ 2 16 Try.underlying73 hi hz0 hz1' hz2' rfl (by omega) va nn LL (by rfl) (hra.drew.alloc _) ⟨w6.heap.size, 0, none⟩ 1 1 [.int .i64 c0, .int .i64 sn] (by rfl) (by rfl) (World.news_of_block (cs := #[.int .i64 c0, .int .i64 sn]) (t := 70) (fr := (0, 0)) (heap_alloc_new w6.drew _)) (by simp [Value.oneCell']) (by omega) (by unfold maxLen; omega) (by omega) (by omega) (w6.heap.size + 1) (by simp) ?_; intro g cap w7 hown7 hg7 hat7 hlt7; have hkc : w7.cell? ⟨p, 2, none⟩ = some va := (hg7.cell_far ⟨p, 2, none⟩ (by simp; omega) hap.symm).trans ((World.cell?_alloc_lt w6 _ ⟨p, 2, none⟩ hrl).trans k2); have hkf : w7.frozen? ⟨p, 2, none⟩ = false := (hg7.frozen_far ⟨p, 2, none⟩ (by simp; omega) hap.symm).trans (((Below.refl w6.heap.size w6).alloc (Nat.le_refl _) _).frozen hrl |>.trans kf)))
    all_goals
      go_wp2_with fail
      go_meet
      have harr := add_arrive (s := ⟨sc, sn, key, val, time, trust, back⟩) HP.out HP6.out H6.out hB hz6 (by omega) RX.out RY.out hg7 (by rw [hLL, hnn]; simpa [placeOf, encP, hc0] using hown7) hat7
      rw [hnn] at harr
      exact ⟨rfl, harr⟩
  case rest =>
    obtain ⟨rfl, va', hvX, hP8, hE8, rX8, rY8, hz8⟩ := hcut
    have rY8 : VecAt wc (X + 1) v := rY8
    have HN1 := Lib.hid (show v c0 ≤ 1000 from by rw [← hv]; exact kn_le HU.out _)
    have HK0 := Lib.hid (show ∀ i : Nat, 1 ≤ i → i ≤ v c0 → hasP arr sc i = true from by
      intro i h1 h2
      rw [← hv] at h2
      have := (kn_is HU.out ((c0 + 1 : Nat) : Int)).1 i h1 h2
      rw [show ((c0 + 1 : Nat) : Int) = sc by omega] at this
      exact this)
    have HU2 := Lib.hid (show Nums (arr ++ [(⟨sc, sn, key, val, time, trust, back⟩ : Sd)]) from fun u hu => (List.mem_append.1 hu).elim (HU.out u) fun h => by
      rw [List.mem_singleton.1 h]
      exact ⟨HS.out.c, HS.out.n⟩)
    have HI := Lib.hid (show ∀ i : Int, hasP arr sc i = true → hasP (arr ++ [(⟨sc, sn, key, val, time, trust, back⟩ : Sd)]) sc i = true from fun i h => by
      obtain ⟨u, hu, h1, h2⟩ := hasP_iff.1 h
      exact hasP_iff.2 ⟨u, List.mem_append.2 (.inl hu), h1, h2⟩)
    obtain ⟨ar1, har1⟩ : ∃ l, arr ++ [(⟨sc, sn, key, val, time, trust, back⟩ : Sd)] = l := ⟨_, rfl⟩
    rw [har1] at hP8 HU2 HI
    have hkX : vk.ownBlock ≠ some (X + 1) := fun e => by
      have := (ownBlock_lt HP.out.rk e).2
      omega
    have HP8 := Lib.hid hP8
    have HE8 := Lib.hid hE8
    have HX8 := Lib.hid rX8
    have HY8 := Lib.hid rY8
    clear HP6 H6 RX RY hP8 hE8 rX8 rY8 hi hz0 hz1' hz2' hLL hra k2 kf hap hmpl x0 x1 hrl
    go_wp2_with fail
    go_loopw [7] (fun o wr => ∃ x : Nat, v c0 ≤ x ∧ x ≤ 1000 ∧ (∀ i : Nat, 1 ≤ i → i ≤ x → hasP ar1 sc i = true) ∧ PicP wr (Fr F B) p m va' vk cen ar1 ar1 arr ∧ Ext F w wr ∧ wr.heap[X]? = some (.cells #[.int .i64 c0, .int .i64 sn] 70 (0, 0)) ∧ VecAt wr (X + 1) (updN v c0 x)) (fun o wr => 1000 - cellN wr ⟨X + 1, c0, none⟩)
    case atStart =>
      exact ⟨v c0, Nat.le_refl _, HN1.out, fun i h1 h2 => HI.out _ (HK0.out i h1 h2), HP8.out, HE8.out, HX8.out, by rw [updN_self]; exact HY8.out⟩
    case round =>
      obtain ⟨x, hx1, hx2, hx3, hPr, hEr, hXr, hYr⟩ := hrel
      have k1 := hPr.c1
      have y0 := hYr.cell hc8
      rw [updN_same] at y0
      have yf := hYr.frozen c0
      have x0 : wr.cell? ⟨X, 0, none⟩ = some (.int .i64 c0) := by simp [World.cell?, hXr]
      have hS : ∀ W', Below wr.heap.size wr W' → (W'.cell? ⟨p, 1, none⟩ = some (.map (some m)) ∧ W'.cell? ⟨X, 0, none⟩ = some (.int .i64 c0) ∧ W'.cell? ⟨X + 1, c0, none⟩ = some (.int .i64 x) ∧
          (Instr.lookup 68 (.map (some m)) (.agg #[.int .i64 c0, .int .i64 ((x : Int) + 1)]) true).run Try.prog W' = .ok (.tuple #[valSd (getP ar1 sc (x + 1)), .bool (hasP ar1 sc (x + 1))]) W') := fun W' hb => by
        refine ⟨(hb.cell (p := ⟨p, 1, none⟩) hPr.lt).trans k1, (hb.cell (p := ⟨X, 0, none⟩) (by show X < _; have := hYr.lt; omega)).trans x0, (hb.cell (p := ⟨X + 1, c0, none⟩) hYr.lt).trans y0, ?_⟩
        have h := (hPr.mp.below hb).look_ok (c := (c0 : Int)) (k := (x : Int) + 1) (isI64_of (by omega)) (isI64_of (by omega))
        rw [show (c0 : Int) + 1 = sc by omega] at h
        exact h
      have HS2 := Lib.hid hS
      clear hS
      have ew : IntKind.i64.wrap ((x : Int) + 1) = (x : Int) + 1 := wrapK _ (by omega) (by omega)
      have ew0 : IntKind.i64.wrap (1 : Int) = 1 := wrapK _ (by omega) (by omega)
      have hc1 : (0 : Int) ≤ (c0 : Int) := by omega
      have hc2 : (c0 : Int) < 8 := by omega
      have HPr := Lib.hid hPr
      have HXr := Lib.hid hXr
      have HYr := Lib.hid hYr
      have HEr := Lib.hid hEr
      have HX3 := Lib.hid hx3
      obtain ⟨⟨gc, gn, gk, gv, gt, gu, gb⟩, hgg⟩ : ∃ g, getP ar1 sc (x + 1) = g := ⟨_, rfl⟩
      rw [hgg] at HS2
      unfold valSd at HS2
      obtain ⟨q, hq⟩ : ∃ q, hasP ar1 sc (x + 1) = q := ⟨_, rfl⟩
      rw [hq] at HS2
      clear hPr hXr hYr hEr hx3 hgg k1 y0 yf x0
      go_wp2_with fail
      go_cut [6, 7] from 28 to 51 (fun o b wx => b = .bool q ∧ Below wr.heap.size wr wx)
      case first =>
        go_region_held3 (fun W' => W'.cell? ⟨p, 1, none⟩ = some (.map (some m)) ∧ W'.cell? ⟨X, 0, none⟩ = some (.int .i64 c0) ∧ W'.cell? ⟨X + 1, c0, none⟩ = some (.int .i64 x) ∧
          (Instr.lookup 68 (.map (some m)) (.agg #[.int .i64 c0, .int .i64 ((x : Int) + 1)]) true).run Try.prog W' = .ok (.tuple #[.agg #[.int .i64 gc, .int .i64 gn, .string gk, .string gv, .int .i64 gt, .int .i64 gu, .int .i64 gb], .bool q]) W')
          ((refine HS2.out _ ?_; repeat (first | exact Below.refl _ _ | refine belowDrew ?_ | refine Below.alloc ?_ (by simp) _ | refine Below.setCell ?_ (by simp) _))) (fail)
        all_goals
          go_wp2_with fail
          go_meet
          exact ⟨rfl, belowDrew ((Below.refl _ _).alloc (Nat.le_refl _) _)⟩
      case rest =>
        obtain ⟨rfl, hbc⟩ := hcut
        have HPc := Lib.hid (HPr.out.below hbc)
        have HXc := Lib.hid ((hbc.block X (by have := HYr.out.lt; omega)).trans HXr.out)
        have HYc := Lib.hid (HYr.out.of_block (hbc.block (X + 1) HYr.out.lt))
        have HEc := Lib.hid (HEr.out.thenBelow hbc)
        have hcell := cellN_of ((HYr.out.cell hc8).trans (by rw [updN_same]))
        have x0 : wc.cell? ⟨X, 0, none⟩ = some (.int .i64 c0) := by simp [World.cell?, HXc.out]
        have y0 : wc.cell? ⟨X + 1, c0, none⟩ = some (.int .i64 x) := (HYc.out.cell hc8).trans (by rw [updN_same])
        have yf := HYc.out.frozen c0
        have e1 : wrap64 ((x : Int) + 1) = (x : Int) + 1 := wrapId _ (by omega) (by omega)
        have hq2 := Lib.hid hq
        clear HPr HXr HYr HEr hq hbc HS2
        cases q with
        | true =>
          have hx4 : x + 1 ≤ 1000 := by
            obtain ⟨u, hu, h1, h2⟩ := hasP_iff.1 hq2.out
            have h3 := (HU2.out u hu).2.2
            rw [h2] at h3
            clear ew0 ew e1 hx2
            omega
          go_wp2_with fail
          go_roundw
          case rel =>
            clear ew0 ew e1
            have hXl := HYc.out.lt
            refine ⟨x + 1, by omega, hx4, fun i h1 h2 => ?_, HPc.out.off ?_ ?_ hvX hkX _, HEc.out.setCell (.inr (by show _ ≤ X + 1; omega)) _, (Below.heap_setCell _ _ _ _ (by show X ≠ X + 1; omega)).trans HXc.out, ?_⟩
            · by_cases e : i = x + 1
              · rw [e]
                exact_mod_cast hq2.out
              · exact HX3.out i h1 (by omega)
            · show X + 1 ≠ p
              omega
            · show X + 1 ≠ m
              omega
            · have := HYc.out.set hc8 (x + 1)
              rw [updN_twice] at this
              exact_mod_cast this
          case measure =>
            clear ew0 ew e1
            have h1 := HYc.out.set hc8 (x + 1)
            have h2 := cellN_of ((h1.cell hc8).trans (by rw [updN_same]))
            rw [show (((x + 1 : Nat)) : Int) = (x : Int) + 1 by omega] at h2
            rw [hcell, h2]
            omega
        | false =>
          have hu : updN v c0 x = knF ar1 := by
            funext c
            unfold updN
            split
            · rename_i e
              rw [e]
              show x = kn ar1 ((c0 + 1 : Nat) : Int)
              refine (kn_eq HU2.out ⟨fun i h1 h2 => ?_, ?_⟩).symm
              · rw [show ((c0 + 1 : Nat) : Int) = sc by omega]
                exact HX3.out i h1 h2
              · have := hq2.out
                rw [show ((c0 + 1 : Nat) : Int) = sc by omega]
                exact_mod_cast this
            · rename_i e
              rw [← hv, ← har1]
              exact (kn_other HU.out (fun t ht => by rw [List.mem_singleton.1 ht]; exact ⟨HS.out.c, HS.out.n⟩) (by show sc ≠ _; omega)).symm
          rw [hu] at HYc
          obtain ⟨u, hue⟩ : ∃ u, knF ar1 = u := ⟨_, rfl⟩
          rw [hue] at HYc
          have y0 := HYc.out.cell (c := 0) (by omega)
          have y1 := HYc.out.cell (c := 1) (by omega)
          have y2 := HYc.out.cell (c := 2) (by omega)
          have y3 := HYc.out.cell (c := 3) (by omega)
          have y4 := HYc.out.cell (c := 4) (by omega)
          have y5 := HYc.out.cell (c := 5) (by omega)
          have y6 := HYc.out.cell (c := 6) (by omega)
          have y7 := HYc.out.cell (c := 7) (by omega)
          have k3 := HPc.out.c3
          have kf := HPc.out.f3
          have hrk := HPc.out.rk
          have hkp := HPc.out.kp
          have hrl := HPc.out.lt
          obtain ⟨LK, hLK⟩ : ∃ L, flatE encV (knowns arr) = L := ⟨_, rfl⟩
          rw [hnn, hLK] at hrk
          obtain ⟨j0, ji, jz0, jz1, jz2⟩ := info_parts infoV
          clear hu x0 yf e1
          go_wp2_with fail
          go_region_law (first | (refine step_append_lies _ (by rfl) _ _ _ (by rfl) 0 62 j0 _ 8 64 Try.underlying74 ji jz0 jz1 jz2 rfl (by omega) vk (nn + 1) LK (by rfl) (hrk.drew.alloc _) ⟨wc.heap.size, 0, none⟩ 1 1 (encV u) (by rfl) (by rfl) (World.news_of_block (cs := arrV u) (t := 62) (fr := (0, 0)) (heap_alloc_new wc.drew _)) (by simp [Value.oneCell', encV]) (by omega) (by unfold maxLen; omega) (by omega) (by omega) (wc.heap.size + 1) (by simp) ?_; intro g cap w7 hown7 hg7 hat7 hlt7; have hkc : w7.cell? ⟨p, 3, none⟩ = some vk := (hg7.cell_far ⟨p, 3, none⟩ (by simp; omega) hkp.symm).trans ((World.cell?_alloc_lt wc _ ⟨p, 3, none⟩ hrl).trans k3); have hkf : w7.frozen? ⟨p, 3, none⟩ = false := (hg7.frozen_far ⟨p, 3, none⟩ (by simp; omega) hkp.symm).trans (((Below.refl wc.heap.size wc).alloc (Nat.le_refl _) _).frozen hrl |>.trans kf)))
          all_goals
            go_wp2_with fail
            go_end0
            have hfin := add_learn (s := ⟨sc, sn, key, val, time, trust, back⟩) HP.out.fp HP.out.fk HPc.out HEc.out hB har1 hg7 (by rw [hnn, hLK, hue]; exact hown7) hat7
            rw [hnn] at hfin
            rw [har1]
            exact ⟨rfl, hfin⟩
end Go.Proofs.Ytngigogaiheckaa
