/-
  No cell of these rows narrows 'for every input' (looked for: loops, veiled, ifaces, maps, wideKeys, modest, calm, conditions, laid).
  DERIVED. THE GIVEN ROWS OF THIS SEAT. 5 by the template 'for every input the law returns true; each argument reads behind the call as it read before'; 0 by the template 'total and deterministic' (their statements: YtngigogaiheckaaTotals.lean).
  GIVEN WITH THE SEED: the statements are not yours to turn. If you find one false, say at which input.
  Laid BY PROGRAM, IN A SANDBOX (cutbox-rows.mjs): the forced cells as the released guide's own fill.sh prints them over the translation 6b8a97264190b5c1… (all of the seat's roots in one cut). By AI agents, Wed Nov 11 2026. No macro, syntax, notation, axiom, sorry.
-/
import Derived.Test.YtngigogaiheckaaChecked
import GoSem.Claim
import GoSem.ClaimJoined
import GoSem.ClaimMapViews
import Derived.JoinedTies
import Derived.KernelRfl
namespace Go.Proofs.Ytngigogaiheckaa
/- THE CELL 'sum', in the pinned program and in every row, IS THE sha256 OF THE DUMP (.gsa) THAT YtngigogaiheckaaProg.lean LOADS. Nothing in Lean hashes anything: it is a label: what it is worth is what the hold of that sum in a sandbox is worth. -/
noncomputable def Try.pinned : Pinned := { name := "ytngigogaiheckaa", sum := "6b8a97264190b5c19e1089ae48be25f0593ee49a181d632178c8f394d4db5bbe", checked := Try.checked }
namespace Rows
def none {H : Type} : Left H := { results := [], args := [] }

/-- 'cressetlaw13.ShareSame': WHATEVER THE INPUT: true; the input reads as it did. -/
def shareSameSpec : ChangeSpec := { name := "shareSame", fn := fun _ => fun
  | [d] => { results := [.lit (.bool true)], args := [d] }
  | _ => none }
def shareSameRow : OpenClaim := { program := "ytngigogaiheckaa", sum := "6b8a97264190b5c19e1089ae48be25f0593ee49a181d632178c8f394d4db5bbe", func := "cresset/cressetlaw13.ShareSame", spec := "shareSame", inPlace := ["internal/bytealg.abigen_runtime_cmpstring"], unfollowed := true, recurses := true, plainKeys := false, apart := false }
def ShareSameSaid : Prop := shareSameRow.holds Try.pinned (OpenSpec.ofChange shareSameSpec)

/-- ITS FALSE NEIGHBOUR: 'it returns false'. Refute it at one input. -/
def shareSameWrong : ChangeSpec := { name := "shareSame", fn := fun _ => fun
  | [d] => { results := [.lit (.bool false)], args := [d] }
  | _ => none }
def ShareSameWrongFalsely : Prop := shareSameRow.holds Try.pinned (OpenSpec.ofChange shareSameWrong)

/-- 'cressetlaw13.ShareTrue': WHATEVER THE INPUT: true; the input reads as it did. -/
def shareTrueSpec : ChangeSpec := { name := "shareTrue", fn := fun _ => fun
  | [d] => { results := [.lit (.bool true)], args := [d] }
  | _ => none }
def shareTrueRow : OpenClaim := { program := "ytngigogaiheckaa", sum := "6b8a97264190b5c19e1089ae48be25f0593ee49a181d632178c8f394d4db5bbe", func := "cresset/cressetlaw13.ShareTrue", spec := "shareTrue", inPlace := ["internal/bytealg.abigen_runtime_cmpstring"], unfollowed := true, recurses := true, plainKeys := false, apart := false }
def ShareTrueSaid : Prop := shareTrueRow.holds Try.pinned (OpenSpec.ofChange shareTrueSpec)

/-- ITS FALSE NEIGHBOUR: 'it returns false'. Refute it at one input. -/
def shareTrueWrong : ChangeSpec := { name := "shareTrue", fn := fun _ => fun
  | [d] => { results := [.lit (.bool false)], args := [d] }
  | _ => none }
def ShareTrueWrongFalsely : Prop := shareTrueRow.holds Try.pinned (OpenSpec.ofChange shareTrueWrong)

/-- 'cressetlaw13.ShareChecks': WHATEVER THE INPUT: true; the input reads as it did. -/
def shareChecksSpec : ChangeSpec := { name := "shareChecks", fn := fun _ => fun
  | [d1, d2, d3, d4] => { results := [.lit (.bool true)], args := [d1, d2, d3, d4] }
  | _ => none }
def shareChecksRow : OpenClaim := { program := "ytngigogaiheckaa", sum := "6b8a97264190b5c19e1089ae48be25f0593ee49a181d632178c8f394d4db5bbe", func := "cresset/cressetlaw13.ShareChecks", spec := "shareChecks", inPlace := ["internal/bytealg.abigen_runtime_cmpstring"], unfollowed := true, recurses := true, plainKeys := false, apart := false }
def ShareChecksSaid : Prop := shareChecksRow.holds Try.pinned (OpenSpec.ofChange shareChecksSpec)

/-- ITS FALSE NEIGHBOUR: 'it returns false'. Refute it at one input. -/
def shareChecksWrong : ChangeSpec := { name := "shareChecks", fn := fun _ => fun
  | [d1, d2, d3, d4] => { results := [.lit (.bool false)], args := [d1, d2, d3, d4] }
  | _ => none }
def ShareChecksWrongFalsely : Prop := shareChecksRow.holds Try.pinned (OpenSpec.ofChange shareChecksWrong)

/-- 'cressetlaw13.ShareStays': WHATEVER THE INPUT: true; the input reads as it did. -/
def shareStaysSpec : ChangeSpec := { name := "shareStays", fn := fun _ => fun
  | [d1, d2] => { results := [.lit (.bool true)], args := [d1, d2] }
  | _ => none }
def shareStaysRow : OpenClaim := { program := "ytngigogaiheckaa", sum := "6b8a97264190b5c19e1089ae48be25f0593ee49a181d632178c8f394d4db5bbe", func := "cresset/cressetlaw13.ShareStays", spec := "shareStays", inPlace := ["internal/bytealg.abigen_runtime_cmpstring"], unfollowed := true, recurses := true, plainKeys := false, apart := false }
def ShareStaysSaid : Prop := shareStaysRow.holds Try.pinned (OpenSpec.ofChange shareStaysSpec)

/-- ITS FALSE NEIGHBOUR: 'it returns false'. Refute it at one input. -/
def shareStaysWrong : ChangeSpec := { name := "shareStays", fn := fun _ => fun
  | [d1, d2] => { results := [.lit (.bool false)], args := [d1, d2] }
  | _ => none }
def ShareStaysWrongFalsely : Prop := shareStaysRow.holds Try.pinned (OpenSpec.ofChange shareStaysWrong)

/-- 'cressetlaw13.ShareNeeds': WHATEVER THE INPUT: true; the input reads as it did. -/
def shareNeedsSpec : ChangeSpec := { name := "shareNeeds", fn := fun _ => fun
  | [d] => { results := [.lit (.bool true)], args := [d] }
  | _ => none }
def shareNeedsRow : OpenClaim := { program := "ytngigogaiheckaa", sum := "6b8a97264190b5c19e1089ae48be25f0593ee49a181d632178c8f394d4db5bbe", func := "cresset/cressetlaw13.ShareNeeds", spec := "shareNeeds", inPlace := ["internal/bytealg.abigen_runtime_cmpstring"], unfollowed := true, recurses := true, plainKeys := false, apart := false }
def ShareNeedsSaid : Prop := shareNeedsRow.holds Try.pinned (OpenSpec.ofChange shareNeedsSpec)

/-- ITS FALSE NEIGHBOUR: 'it returns false'. Refute it at one input. -/
def shareNeedsWrong : ChangeSpec := { name := "shareNeeds", fn := fun _ => fun
  | [d] => { results := [.lit (.bool false)], args := [d] }
  | _ => none }
def ShareNeedsWrongFalsely : Prop := shareNeedsRow.holds Try.pinned (OpenSpec.ofChange shareNeedsWrong)

/- THE SECOND FORM. 'bulk': how many values and letters a reading holds, each counted each time it is reached (what is shared counts as often as it is met; a slice's spare places count too). A statement '..UptoSaid' is the law's where the arguments, and the package variables that the reading takes, are together of bulk at most 1048576: NARROWER than '..Said'. Prove '..Said' where nothing that the law and all that it calls make is longer than what came in: it says more and counts as full. Else prove '..UptoSaid'. A law counts once. -/
mutual
def uptoBulk {H : Type} : DataW H → Nat
  | .lit (.string bytes) => bytes.length + 1
  | .lit _ => 1
  | .nil => 1
  | .ptr d => uptoBulk d + 1
  | .slice elems spare => uptoBulkAll elems + uptoBulkAll spare + 1
  | .agg parts => uptoBulkAll parts + 1
  | .iface _ d => uptoBulk d + 1
  | .map entries => uptoBulkEntries entries + 1
  | .held _ => 1
def uptoBulkAll {H : Type} : List (DataW H) → Nat
  | [] => 0
  | d :: r => uptoBulk d + uptoBulkAll r
def uptoBulkEntries {H : Type} : List (Lit × DataW H) → Nat
  | [] => 0
  | x :: r => uptoBulkEntry x + uptoBulkEntries r
def uptoBulkEntry {H : Type} : Lit × DataW H → Nat
  | (.string bytes, d) => bytes.length + uptoBulk d + 1
  | (_, d) => uptoBulk d + 1
 end
def uptoSmall : (H : Type) → List (DataW H) → Bool := fun _ ds => decide (uptoBulkAll ds ≤ 1048576)
def OpenSpec.upto (s : _root_.Go.ChangeSpec) : _root_.Go.OpenSpec := { _root_.Go.OpenSpec.ofChange s with cond := some uptoSmall }

/-- 'cressetlaw13.ShareSame', WHERE WHAT IT READS IS OF BULK AT MOST 1048576: true; the input reads as it did. -/
def shareSameUptoRow : OpenClaim := { program := "ytngigogaiheckaa", sum := "6b8a97264190b5c19e1089ae48be25f0593ee49a181d632178c8f394d4db5bbe", func := "cresset/cressetlaw13.ShareSame", spec := "shareSame", inPlace := ["internal/bytealg.abigen_runtime_cmpstring"], unfollowed := true, recurses := true, plainKeys := false, apart := false, narrowed := true }
def ShareSameUptoSaid : Prop := shareSameUptoRow.holds Try.pinned (OpenSpec.upto shareSameSpec)

/-- 'cressetlaw13.ShareTrue', WHERE WHAT IT READS IS OF BULK AT MOST 1048576: true; the input reads as it did. -/
def shareTrueUptoRow : OpenClaim := { program := "ytngigogaiheckaa", sum := "6b8a97264190b5c19e1089ae48be25f0593ee49a181d632178c8f394d4db5bbe", func := "cresset/cressetlaw13.ShareTrue", spec := "shareTrue", inPlace := ["internal/bytealg.abigen_runtime_cmpstring"], unfollowed := true, recurses := true, plainKeys := false, apart := false, narrowed := true }
def ShareTrueUptoSaid : Prop := shareTrueUptoRow.holds Try.pinned (OpenSpec.upto shareTrueSpec)

/-- 'cressetlaw13.ShareChecks', WHERE WHAT IT READS IS OF BULK AT MOST 1048576: true; the input reads as it did. -/
def shareChecksUptoRow : OpenClaim := { program := "ytngigogaiheckaa", sum := "6b8a97264190b5c19e1089ae48be25f0593ee49a181d632178c8f394d4db5bbe", func := "cresset/cressetlaw13.ShareChecks", spec := "shareChecks", inPlace := ["internal/bytealg.abigen_runtime_cmpstring"], unfollowed := true, recurses := true, plainKeys := false, apart := false, narrowed := true }
def ShareChecksUptoSaid : Prop := shareChecksUptoRow.holds Try.pinned (OpenSpec.upto shareChecksSpec)

/-- 'cressetlaw13.ShareStays', WHERE WHAT IT READS IS OF BULK AT MOST 1048576: true; the input reads as it did. -/
def shareStaysUptoRow : OpenClaim := { program := "ytngigogaiheckaa", sum := "6b8a97264190b5c19e1089ae48be25f0593ee49a181d632178c8f394d4db5bbe", func := "cresset/cressetlaw13.ShareStays", spec := "shareStays", inPlace := ["internal/bytealg.abigen_runtime_cmpstring"], unfollowed := true, recurses := true, plainKeys := false, apart := false, narrowed := true }
def ShareStaysUptoSaid : Prop := shareStaysUptoRow.holds Try.pinned (OpenSpec.upto shareStaysSpec)

/-- 'cressetlaw13.ShareNeeds', WHERE WHAT IT READS IS OF BULK AT MOST 1048576: true; the input reads as it did. -/
def shareNeedsUptoRow : OpenClaim := { program := "ytngigogaiheckaa", sum := "6b8a97264190b5c19e1089ae48be25f0593ee49a181d632178c8f394d4db5bbe", func := "cresset/cressetlaw13.ShareNeeds", spec := "shareNeeds", inPlace := ["internal/bytealg.abigen_runtime_cmpstring"], unfollowed := true, recurses := true, plainKeys := false, apart := false, narrowed := true }
def ShareNeedsUptoSaid : Prop := shareNeedsUptoRow.holds Try.pinned (OpenSpec.upto shareNeedsSpec)

end Rows
end Go.Proofs.Ytngigogaiheckaa
