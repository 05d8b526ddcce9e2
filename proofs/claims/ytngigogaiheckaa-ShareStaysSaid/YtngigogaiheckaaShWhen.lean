/- share: When behind the last arrival; append of a list that may be nil; pictures that grow. -/
import Derived.Test.YtngigogaiheckaaShLaw
import Derived.Deep.Upon
namespace Go.Proofs.Ytngigogaiheckaa
open Go.RowKit Go.Shelf Go.Lib Go.Maps

set_option maxRecDepth 100000 in
theorem when_no (w : World) {F : Nat → Prop} {p : Nat} {cen : Int} {arr : List Sd} (h : Pic w F p cen arr) (i : Nat) (hi : arr.length < i) :
    Calls Try.prog 24 #[.pointer (some ⟨p, 0, none⟩), .int .i64 i] w fun e w' => e = .returned (.tuple #[.slice none 0 0, .int .i64 7]) ∧ w = w' := by
  obtain ⟨m, va, vk, h⟩ := h
  obtain ⟨A, cc, rfl⟩ := rowSlice h.ra
  have his := is_sh p m w h.c1
  have c2 := h.c2
  have hwi := within_sh i 0 arr.length w
  have hin : inB i 0 arr.length = false := by
    simp only [inB, Bool.and_eq_false_iff, decide_eq_false_iff_not]
    omega
  rw [hin] at hwi
  have HI := Lib.hid his
  have HW := Lib.hid hwi
  clear his h hwi hin hi
  go_enter Try.func24, Try.ntmps24
  go_wp2_with fail
  refine HI.out.mono ?_
  rintro e w1 ⟨rfl, rfl⟩
  go_wp2_with fail
  refine HW.out.mono ?_
  rintro e w1 ⟨rfl, rfl⟩
  go_wp2_with fail
  refine bodyPost_ret (v := .tuple #[.slice none 0 0, .int .i64 7]) (by simp [results, Try.results24, go_sem]) rfl ⟨rfl, rfl⟩

section
variable {P : Program} {w : World}
/-- a list is appended that may be empty, or nil -/
theorem wpList_append_lst {α : Type} {k : Nat} {enc : α → List Value} (hk : ∀ x, (enc x).length = k) (hone : ∀ x u, u ∈ enc x → u.oneCell' = true) {ops : Array Oper} {rest : List Oper} {o : Oper} {a : Act} {Q : Exit → Act → World → Prop} (hgd : o.guard = none) (s x : Operand) (t : TypeId)
    (ho : o.op = .call { callee := .builtin .append, args := #[s, x], argTypes := #[t, t] })
    (base : Nat) (e : TypeId) (i : TypeInfo) (z : Value) (bytes : Nat) (ht : P.underlying t = some (.slice e)) (hi : P.info? e = some i) (hz : i.zero = some z)
    (hsize : i.size = k) (hby : i.bytes = bytes) (hzs : z.cells.size = k) (hsz : 0 < k)
    (v : Value) (n : Nat) (xs : List Value) (hs : a.eval s = v) (hown : w.ownsRow base e k v n xs)
    (xv : Value) (l : List α) (hx : a.eval x = xv) (hl : Lst k enc w xv l) (h63 : n + l.length ≤ maxLen) (hbytes : (n + l.length) * bytes ≤ 140737488355328) (hbase : base ≤ w.heap.size)
    (h : ∀ v' w', w'.ownsRow base e k v' (n + l.length) (xs ++ flatE enc l) → w.grownBy w' v.ownBlock → wpList P ops Q rest (a.put o.dst v') w') : wpList P ops Q (o :: rest) a w := by
  obtain ⟨A, c, rfl, h1, h2, h3⟩ := hl
  by_cases h0 : 0 < l.length
  · obtain ⟨b, off, rfl, hb, hc⟩ := h3 h0
    refine wpList_append_lies w hgd s x t ho base e i z k bytes ht hi hz hsize hby hzs hsz v n xs hs hown ⟨b, off, none⟩ l.length c (flatE enc l) hx (flatE_length hk l) (fun j u hu => ?_) (fun u hu => ?_) h0 h63 hbytes hbase _ rfl fun g cap w' h4 h5 _ _ => h _ _ h4 h5
    · obtain ⟨y, hy, hu2⟩ := flatE_inv hk hsz hu
      have := hc (j / k) (j % k) y u hy hu2
      rw [add_pl]
      rwa [Nat.add_assoc, show j / k * k + j % k = j by rw [Nat.mul_comm]; exact Nat.div_add_mod j k] at this
    · obtain ⟨y, -, hu2⟩ := List.mem_flatMap.1 hu
      exact hone y u hu2
  · have hnil : l = [] := List.eq_nil_of_length_eq_zero (by omega)
    subst hnil
    have hsrc : Src P i.size t (.slice A 0 c) 0 [] w := by
      cases A with
      | none => exact Src.ofNil w ht c
      | some ad => exact Src.ofSlice w ht ad 0 c [] (by simp) (fun j u hu => by simp at hu) (fun u hu => by cases hu)
    obtain ⟨A', n', c', rfl, hle⟩ : ∃ A' n' c', v = .slice A' n' c' ∧ n' ≤ c' := by
      rcases hown.2 with ⟨rfl, h4⟩ | ⟨g, cap, cur, rfl, _, _, h4, _⟩
      · exact ⟨none, 0, 0, rfl, Nat.le_refl _⟩
      · exact ⟨_, n, cap, rfl, h4⟩
    have hr := run_append_nothing w t t o.type e i ht hi A' n' c' hle (.slice A 0 c) hsrc
    refine wpList_plain hgd fun K hK => ?_
    unfold Oper.wp execOp
    simp only [ho, resolve, invoke, builtin, Sem.run_bind, Sem.run_pure, Result.andThen_ok, List.map_toArray, List.map_cons, List.map_nil, hs, hx, List.length_nil, hr]
    refine hK _ _ (h _ _ ?_ (World.grownBy.refl w _))
    simpa [flatE] using hown
end
theorem knF_grows {a b : List Sd} (hb : Nums b) (h : ∀ s, s ∈ a → s ∈ b) (c : Nat) : knF a c ≤ knF b c := kn_mono (hb.sub h) hb h _
theorem take_sub {α : Type} {l : List α} {i j : Nat} (h : i ≤ j) : ∀ s, s ∈ l.take i → s ∈ l.take j := fun s hs => by
  rw [show i = min i j by omega, ← List.take_take] at hs
  exact List.mem_of_mem_take hs
theorem betw_hi {l : List Sd} {a b b' : Nat → Nat} : ∀ {m : Nat}, (∀ c, c < m → b c = b' c) → betw l a b m = betw l a b' m
  | 0, _ => rfl
  | m + 1, h => by rw [betw_succ, betw_succ, betw_hi fun c hc => h c (by omega), h m (by omega)]
/-- what is shown up to a vector that both know -/
theorem shown_two {a b said : List Sd} (ha : Nums a) (hb : Nums b) (hu : Uq said) (sa : ∀ s, s ∈ a → s ∈ said) (sb : ∀ s, s ∈ b → s ∈ said) {v : Nat → Nat} (hva : ∀ c, c < 8 → v c ≤ knF a c) (hvb : ∀ c, c < 8 → v c ≤ knF b c) {x y : List (Sd × Int)} (hx : Shows (betw a (fun _ => 0) v 8) x) (hy : Shows (betw b (fun _ => 0) v 8) y) : x = y := by
  have e := betw_both ha hb hu sa sb v hva hvb
  rw [e] at hx
  exact Shows.uniq (fun s hs t ht he => hu s (sb s (betw_mem hb hvb hs).1) t (sb t (betw_mem hb hvb ht).1) he) hx hy
end Go.Proofs.Ytngigogaiheckaa
