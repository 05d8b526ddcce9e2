/- GridLong: what Either, Both and Without come to are the document's runs of the sets. -/
import Derived.Test.YtnbdnnbeiohmgaaLgPlain
import Derived.Test.YtnbdnnbeiohmgaaLgRuns
namespace Go.Proofs.Ytnbdnnbeiohmgaa
open Go.RowKit

theorem reg_eq' {f : Nat → List S2} {R : List R3} {P : Int → Int → Bool} {W H : Int} (hW : 1 ≤ W ∧ W ≤ 256) (hH : 1 ≤ H ∧ H ≤ 256) (h : RegOf f R) (hf : ∀ i s, s ∈ f i → (i : Int) < H ∧ 0 ≤ s.1 ∧ s.1 < s.2 ∧ s.2 ≤ W)
    (hP : ∀ i : Nat, (i : Int) < H → ∀ x : Int, 0 ≤ x → x < W → (inS x (f i) ↔ P x i = true)) : R = refR P W.toNat H.toNat := by
  have e : ((W.toNat : Nat) : Int) = W := by omega
  refine reg_eq (by omega) h (fun i s hs => ?_) (fun i hi x h0 h1 => ?_)
  · have := hf i s hs
    rw [e]
    omega
  · rw [e] at h1
    exact hP i (by omega) x h0 h1

theorem either_eq {W H : Int} {a b R : List R3} (hW : 1 ≤ W ∧ W ≤ 256) (hH : 1 ≤ H ∧ H ≤ 256) (ha : Proper W H a) (hb : Proper W H b) (h : RegOf (eithF W H (a ++ b)) R) : R = refR (fun x y => hasL a x y || hasL b x y) W.toNat H.toNat := by
  refine reg_eq' hW hH h (fun i s hs => eithF_mem hs) (fun i hi x h0 h1 => ?_)
  rw [eithF_in (fun r hr => ?_), hasL_append]
  rcases List.mem_append.1 hr with hr | hr
  · exact ha.rows r hr
  · exact hb.rows r hr

theorem both_eq {W H : Int} {a b R : List R3} (hW : 1 ≤ W ∧ W ≤ 256) (hH : 1 ≤ H ∧ H ≤ 256) (ha : Proper W H a) (hb : Proper W H b) (h : RegOf (bothF W H (a.length + b.length) a b fun _ => []) R) : R = refR (fun x y => hasL a x y && hasL b x y) W.toNat H.toNat := by
  refine reg_eq' hW hH h (fun i s hs => ?_) (fun i hi x h0 h1 => ?_)
  · rcases bothF_mem _ _ _ _ _ _ hs with h | h
    · simp at h
    · exact h
  · rw [bothF_in _ a b _ rfl ha.ord hb.ord ha.rows (fun r hr => (hb.rows r hr).1), Bool.and_eq_true]
    simp [inS]

theorem without_eq {W H : Int} {a b R : List R3} (hW : 1 ≤ W ∧ W ≤ 256) (hH : 1 ≤ H ∧ H ≤ 256) (ha : Proper W H a) (hb : Proper W H b) (h : RegOf (bothF W H (a.length + (othF W b H.toNat).1.length) a (othF W b H.toNat).1 fun _ => []) R) : R = refR (fun x y => hasL a x y && !hasL b x y) W.toNat H.toNat := by
  obtain ⟨-, -, -, o4, o5, o6⟩ := othF_spec (W := W) (by omega) hb.ord (fun r hr => ⟨(hb.rows r hr).1, (hb.rows r hr).2.2⟩) H.toNat
  refine reg_eq' hW hH h (fun i s hs => ?_) (fun i hi x h0 h1 => ?_)
  · rcases bothF_mem _ _ _ _ _ _ hs with h | h
    · simp at h
    · exact h
  · rw [bothF_in _ a _ _ rfl ha.ord o4 ha.rows (fun r hr => (o5 r hr).1), Bool.and_eq_true, Bool.not_eq_true', ← Bool.not_eq_true, o6 x i h0 h1 (by omega) (by omega)]
    simp [inS]
end Go.Proofs.Ytnbdnnbeiohmgaa
