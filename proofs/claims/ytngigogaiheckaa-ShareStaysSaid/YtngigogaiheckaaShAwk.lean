/- share: awake: the plain facts. -/
import Derived.Test.YtngigogaiheckaaShGlobe
namespace Go.Proofs.Ytngigogaiheckaa
open Go.RowKit Go.Shelf Go.Lib Go.Maps

def kRaft : ByteArray := ⟨#[114, 97, 102, 116]⟩
def tA1 : Sd := ⟨0, 0, kRaft, ⟨#[115, 101, 101, 110]⟩, 5, 600, 0⟩
def tB1 : Sd := ⟨0, 0, kRaft, ⟨#[108, 111, 115, 116]⟩, 9, 500, 0⟩
def tA2 : Sd := ⟨0, 0, ⟨#[]⟩, ⟨#[]⟩, 0, 0, 1⟩
def sA1 : Sd := ⟨1, 1, kRaft, ⟨#[115, 101, 101, 110]⟩, 5, 600, 0⟩
def sB1 : Sd := ⟨2, 1, kRaft, ⟨#[108, 111, 115, 116]⟩, 9, 500, 0⟩
def sA2 : Sd := ⟨1, 2, ⟨#[]⟩, ⟨#[]⟩, 0, 0, 1⟩
theorem awk_a1 : sayOf 1 [] tA1 = sA1 := by decide
theorem awk_b1 : sayOf 2 [] tB1 = sB1 := by decide
theorem awk_a2 : sayOf 1 [sA1] tA2 = sA2 := by decide
theorem awk_ok1 : saidB sA1 = true := by decide
theorem awk_ok2 : saidB sB1 = true := by decide
theorem awk_ok3 : saidB sA2 = true := by decide
theorem awk_s1 : betw [sA1] (vecN (vecI (knF [sB1]))) (knF [sA1]) 8 = [sA1] := by decide
theorem awk_f1 : fresh [sB1] [sA1] = [sA1] := by decide
theorem awk_s2 : betw [sA1, sA2] (vecN (vecI (knF [sB1, sA1]))) (knF [sA1, sA2]) 8 = [sA2] := by decide
theorem awk_f2 : fresh [sB1, sA1] [sA2] = [sA2] := by decide
theorem awk_l1 : betw [sB1, sA1] (fun _ => 0) (knF [sB1, sA1]) 8 = [sA1, sB1] := by decide
theorem awk_l2 : betw [sB1, sA1, sA2] (fun _ => 0) (knF [sB1, sA1, sA2]) 8 = [sA1, sA2, sB1] := by decide
theorem awk_l3 : betw [sB1, sA1, sA2] (fun _ => 0) (vecN [1, 1, 0, 0, 0, 0, 0, 0]) 8 = [sA1, sB1] := by decide
theorem awk_v1 : live [sA1, sB1] = [sA1, sB1] := by decide
theorem awk_v2 : live [sA1, sA2, sB1] = [sB1] := by decide
theorem uq_of {l : List Sd} (h : l.all (fun a => l.all fun b => !(decide (a.c = b.c) && decide (a.n = b.n)) || decide (a = b)) = true) : Uq l := fun a ha b hb e => by
  have h1 := List.all_eq_true.1 (List.all_eq_true.1 h a ha) b hb
  rw [e.1, e.2] at h1
  simpa using h1
theorem awk_u1 : Uq [sA1, sB1] := uq_of (by decide)
theorem awk_u2 : Uq [sA1, sA2, sB1] := uq_of (by decide)
theorem awk_w1 : Shows [sA1, sB1] [(sA1, 1)] := by
  refine ⟨List.pairwise_singleton _ _, fun x hx => ?_, fun s hs => ?_⟩
  · rw [List.mem_singleton] at hx
    subst hx
    unfold Best
    decide
  · rw [awk_v1] at hs
    refine ⟨(sA1, 1), by simp, ?_⟩
    rcases List.mem_cons.1 hs with e | e
    · rw [e]
    · rw [List.mem_singleton] at e
      rw [e]
      rfl
theorem awk_w2 : Shows [sA1, sA2, sB1] [(sB1, 0)] := by
  refine ⟨List.pairwise_singleton _ _, fun x hx => ?_, fun s hs => ?_⟩
  · rw [List.mem_singleton] at hx
    subst hx
    unfold Best
    decide
  · rw [awk_v2] at hs
    refine ⟨(sB1, 0), by simp, ?_⟩
    rw [List.mem_singleton] at hs
    rw [hs]
end Go.Proofs.Ytngigogaiheckaa
