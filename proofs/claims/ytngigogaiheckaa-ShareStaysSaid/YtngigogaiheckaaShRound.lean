/- A region that draws its order, in a round of a range over a function: no defer, no call into the fence: as everywhere. -/
import Derived.Test.YtngigogaiheckaaShMap
import Derived.Test.YtngigogaiheckaaShKeys
namespace Go.Proofs.Ytngigogaiheckaa
open Go.RowKit Go.Lib Go.Maps Go.Shelf

theorem uponIn_wide {l0 n : Nat} {P : Program} {o : Oper} {a : Act} {K : Act → World → Prop} {Q : Exit → Act → World → Prop} {r : Result Next} (h : o.upon P a K Q r) : o.uponIn (Fence.wide.inRound l0) n P a K Q r := by
  have hdep : ∀ m : Nat, ((Fence.wide.inRound l0).depth.isSome = true → 1 ≤ m) := fun m e => absurd e (by simp [Fence.wide, Fence.inRound])
  cases r with
  | ok x w' =>
    cases x with
    | enter f args =>
      refine ⟨hdep _, CallsIn.inRound l0 (callsIn_wide.2 (Calls.mono h ?_))⟩
      intro e w'' he
      cases e <;> exact he
    | row row args =>
      refine ⟨hdep _, fun c cs _ => ?_⟩
      obtain ⟨v, w2, h1, h2⟩ := h c cs
      exact ⟨v, w2, h1, stepsIn_wide.2 h2⟩
    | _ => first | exact h | exact False.elim h
  | halt x w' => cases x <;> first | exact h | exact False.elim h
theorem wpOpIn_round {l0 n : Nat} {P : Program} {ops : Array Oper} {Q : Exit → Act → World → Prop} (hd : ∀ (i : Nat) o, ops[i]? = some o → ∀ c, o.op ≠ .defer c) (hno : ¬ LetsOut Q) {i : Nat} {K K' : Act → World → Prop} (hK : ∀ a w, K a w → K' a w) {a : Act} {w : World} (h : wpOp P ops Q i K a w) : wpOpIn (Fence.wide.inRound l0) n P ops Q i K' a w := by
  refine wpOpIn_mono hK ?_
  unfold wpOp at h
  unfold wpOpIn
  cases ho : ops[i]? with
  | none => simpa [ho] using h
  | some o =>
    simp only [ho] at h ⊢
    split at h
    · rename_i hw
      rw [if_pos hw]
      rcases h with h | h
      · refine ⟨fun f _ => trivial, ?_⟩
        rw [Oper.semAt_plain _ _ _ (hd i o ho)]
        exact uponIn_wide h
      · exact absurd h.2 hno
    · rename_i hw
      rw [if_neg hw]
      exact ⟨fun f _ => trivial, h⟩
theorem wpAnyIn_round {l0 n : Nat} {P : Program} {md : Region.Mode} {ops : Array Oper} {Q : Exit → Act → World → Prop} (hd : ∀ (i : Nat) o, ops[i]? = some o → ∀ c, o.op ≠ .defer c) (hno : ¬ LetsOut Q) : ∀ (fuel : Nat) (listed : Array Bool) (a : Act) (w : World), wpAny P md ops Q fuel listed a w → wpAnyIn (Fence.wide.inRound l0) n P md ops Q fuel listed a w
  | 0, _, _, _, h => h
  | fuel + 1, _, _, _, h => ⟨h.1, fun i hi => wpOpIn_round hd hno (fun a' w' h' => wpAnyIn_round hd hno fuel _ a' w' h') (h.2 i hi)⟩
/-- no operation is a defer statement -/
def noDefer (ops : Array Oper) : Bool := ops.toList.all fun o => match o.op with | .defer _ => false | _ => true
theorem noDefer_spec {ops : Array Oper} (h : noDefer ops = true) (i : Nat) (o : Oper) (ho : ops[i]? = some o) : ∀ c, o.op ≠ .defer c := by
  intro c e
  have hm : o ∈ ops.toList := by
    rw [← Array.getElem?_toList] at ho
    exact List.mem_of_getElem? ho
  have := List.all_eq_true.1 h o hm
  rw [e] at this
  cases this
theorem wpIn_round_held {l0 n id : Nat} {P : Program} {ops : Array Oper} {Q : Exit → Act → World → Prop} {S : World → Prop} {a : Act} {w : World} (hm : P.follows .mixedOrders = true) (hd : noDefer ops = true) (hno : ¬ LetsOut Q)
    (h : wpAnyH P .any ops Q S ops.size (Array.replicate ops.size false) a w.drew) : (Code.region id ops true).wpIn (Fence.wide.inRound l0) n P Q a w :=
  wpIn_region_any hm (wpAnyIn_round (noDefer_spec hd) hno _ _ _ _ (wpAny_of_held _ _ _ _ h))
theorem step_putM {κ : Type} {M : MK κ} {m k : Nat} {f : κ → Option Value} [DecidableEq κ] (L : M.Law) {w : World} {ops : Array Oper} {o : Oper} {a : Act} {K : Act → World → Prop} {Q : Exit → Act → World → Prop} {E : Prop}
    (hg : o.guard = none) (mo x v : Operand) (hop : o.op = Op.mapUpdate M.t mo x v) (hm : a.eval mo = .map (some m)) (h : MapAt M w m k f) (hn : k < maxLen) (y : κ) (hy : M.ok y) (hx : a.eval x = M.kv y) (u : Value) (hv : a.eval v = u)
    (hK : ∀ w', MapAt M w' m (if (f y).isSome then k else k + 1) (putF f y u) → w.grownBy w' (some m) → K (a.put o.dst undef) w') :
    if Region.wanted o (yielded ops a.tmps) = true then Oper.wp Try.prog o a w K Q else E := by
  have hw : Region.wanted o (yielded ops a.tmps) = true := by simp [Region.wanted, hg]
  rw [if_pos hw]
  obtain ⟨D, h1, h2, h3⟩ := h
  obtain ⟨w', hrun, r1, r2⟩ := h1.update L.K L.t hn (L.key y hy) (show raw u = some (.held u, []) from rfl)
  unfold Oper.wp
  simp [execOp, hop, hm, hx, hv, hrun, Result.andThen]
  exact hK _ (MapAt.put L h1 h2 h3 hy r1) r2
theorem MapAt.uniq {κ : Type} {M : MK κ} {w : World} {m n n' : Nat} {f f' : κ → Option Value} (L : M.Law) (h : MapAt M w m n f) (h' : MapAt M w m n' f') {x : κ} (hx : M.ok x) : f x = f' x := by
  have e1 := h.look_ok L hx
  have e2 := h'.look_ok L hx
  rw [e1] at e2
  simp only [Result.ok.injEq, Value.tuple.injEq, and_true] at e2
  have e3 : #[(f x).getD M.z, Value.bool (f x).isSome].toList = #[(f' x).getD M.z, Value.bool (f' x).isSome].toList := by rw [e2]
  simp only [List.cons.injEq, Value.bool.injEq, and_true] at e3
  cases h1 : f x <;> cases h2 : f' x <;> rw [h1, h2] at e3 <;> simp at e3 ⊢
  exact e3
end Go.Proofs.Ytngigogaiheckaa
