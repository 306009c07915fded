/-
  No cell of these rows narrows 'for every input' (looked for: loops, veiled, ifaces, maps, wideKeys, modest, calm, conditions, laid).
  DERIVED. THE GIVEN ROWS OF THIS SEAT. 7 by the template 'for every input the law returns true; each argument reads behind the call as it read before'; 0 by the template 'total and deterministic' (their statements: YtmplfpdokkcpcaaTotals.lean).
  GIVEN WITH THE SEED: the statements are not yours to turn. If you find one false, say at which input.
  Laid BY PROGRAM, IN A SANDBOX (cutbox-rows.mjs): the forced cells as the released guide's own fill.sh prints them over the translation 32be6ff32a0b3394… (all of the seat's roots in one cut). By AI agents, Wed Nov 11 2026. No macro, syntax, notation, axiom, sorry.
-/
import Derived.Test.YtmplfpdokkcpcaaChecked
import GoSem.Claim
import GoSem.ClaimJoined
import GoSem.ClaimMapViews
import Derived.JoinedTies
import Derived.KernelRfl
namespace Go.Proofs.Ytmplfpdokkcpcaa
/- THE CELL 'sum', in the pinned program and in every row, IS THE sha256 OF THE DUMP (.gsa) THAT YtmplfpdokkcpcaaProg.lean LOADS. Nothing in Lean hashes anything: it is a label: what it is worth is what the hold of that sum in a sandbox is worth. -/
noncomputable def Try.pinned : Pinned := { name := "ytmplfpdokkcpcaa", sum := "32be6ff32a0b3394e03da9f8cfdc28dee1571b4f905f22fd955e521d6a7be4c6", checked := Try.checked }
namespace Rows
def none {H : Type} : Left H := { results := [], args := [] }

/-- 'laws.FnExactAreWeights': WHATEVER THE INPUT: true; the input reads as it did. -/
def fnExactAreWeightsSpec : ChangeSpec := { name := "fnExactAreWeights", fn := fun _ => fun
  | [d] => { results := [.lit (.bool true)], args := [d] }
  | _ => none }
def fnExactAreWeightsRow : OpenClaim := { program := "ytmplfpdokkcpcaa", sum := "32be6ff32a0b3394e03da9f8cfdc28dee1571b4f905f22fd955e521d6a7be4c6", func := "loop.example/g03407/laws.FnExactAreWeights", spec := "fnExactAreWeights", apart := false }
def FnExactAreWeightsSaid : Prop := fnExactAreWeightsRow.holds Try.pinned (OpenSpec.ofChange fnExactAreWeightsSpec)

/-- ITS FALSE NEIGHBOUR: 'it returns false'. Refute it at one input. -/
def fnExactAreWeightsWrong : ChangeSpec := { name := "fnExactAreWeights", fn := fun _ => fun
  | [d] => { results := [.lit (.bool false)], args := [d] }
  | _ => none }
def FnExactAreWeightsWrongFalsely : Prop := fnExactAreWeightsRow.holds Try.pinned (OpenSpec.ofChange fnExactAreWeightsWrong)

/-- 'laws.FnExactShareUpTo': WHATEVER THE INPUT: true; the input reads as it did. -/
def fnExactShareUpToSpec : ChangeSpec := { name := "fnExactShareUpTo", fn := fun _ => fun
  | [d1, d2, d3] => { results := [.lit (.bool true)], args := [d1, d2, d3] }
  | _ => none }
def fnExactShareUpToRow : OpenClaim := { program := "ytmplfpdokkcpcaa", sum := "32be6ff32a0b3394e03da9f8cfdc28dee1571b4f905f22fd955e521d6a7be4c6", func := "loop.example/g03407/laws.FnExactShareUpTo", spec := "fnExactShareUpTo", apart := false }
def FnExactShareUpToSaid : Prop := fnExactShareUpToRow.holds Try.pinned (OpenSpec.ofChange fnExactShareUpToSpec)

/-- ITS FALSE NEIGHBOUR: 'it returns false'. Refute it at one input. -/
def fnExactShareUpToWrong : ChangeSpec := { name := "fnExactShareUpTo", fn := fun _ => fun
  | [d1, d2, d3] => { results := [.lit (.bool false)], args := [d1, d2, d3] }
  | _ => none }
def FnExactShareUpToWrongFalsely : Prop := fnExactShareUpToRow.holds Try.pinned (OpenSpec.ofChange fnExactShareUpToWrong)

/-- 'laws.FnExactIsSharing': WHATEVER THE INPUT: true; the input reads as it did. -/
def fnExactIsSharingSpec : ChangeSpec := { name := "fnExactIsSharing", fn := fun _ => fun
  | [d1, d2, d3] => { results := [.lit (.bool true)], args := [d1, d2, d3] }
  | _ => none }
def fnExactIsSharingRow : OpenClaim := { program := "ytmplfpdokkcpcaa", sum := "32be6ff32a0b3394e03da9f8cfdc28dee1571b4f905f22fd955e521d6a7be4c6", func := "loop.example/g03407/laws.FnExactIsSharing", spec := "fnExactIsSharing", apart := false }
def FnExactIsSharingSaid : Prop := fnExactIsSharingRow.holds Try.pinned (OpenSpec.ofChange fnExactIsSharingSpec)

/-- ITS FALSE NEIGHBOUR: 'it returns false'. Refute it at one input. -/
def fnExactIsSharingWrong : ChangeSpec := { name := "fnExactIsSharing", fn := fun _ => fun
  | [d1, d2, d3] => { results := [.lit (.bool false)], args := [d1, d2, d3] }
  | _ => none }
def FnExactIsSharingWrongFalsely : Prop := fnExactIsSharingRow.holds Try.pinned (OpenSpec.ofChange fnExactIsSharingWrong)

/-- 'laws.FnExactApportion': WHATEVER THE INPUT: true; the input reads as it did. -/
def fnExactApportionSpec : ChangeSpec := { name := "fnExactApportion", fn := fun _ => fun
  | [d1, d2] => { results := [.lit (.bool true)], args := [d1, d2] }
  | _ => none }
def fnExactApportionRow : OpenClaim := { program := "ytmplfpdokkcpcaa", sum := "32be6ff32a0b3394e03da9f8cfdc28dee1571b4f905f22fd955e521d6a7be4c6", func := "loop.example/g03407/laws.FnExactApportion", spec := "fnExactApportion", apart := false }
def FnExactApportionSaid : Prop := fnExactApportionRow.holds Try.pinned (OpenSpec.ofChange fnExactApportionSpec)

/-- ITS FALSE NEIGHBOUR: 'it returns false'. Refute it at one input. -/
def fnExactApportionWrong : ChangeSpec := { name := "fnExactApportion", fn := fun _ => fun
  | [d1, d2] => { results := [.lit (.bool false)], args := [d1, d2] }
  | _ => none }
def FnExactApportionWrongFalsely : Prop := fnExactApportionRow.holds Try.pinned (OpenSpec.ofChange fnExactApportionWrong)

/-- 'laws.FnExactLargestRemainder': WHATEVER THE INPUT: true; the input reads as it did. -/
def fnExactLargestRemainderSpec : ChangeSpec := { name := "fnExactLargestRemainder", fn := fun _ => fun
  | [d1, d2] => { results := [.lit (.bool true)], args := [d1, d2] }
  | _ => none }
def fnExactLargestRemainderRow : OpenClaim := { program := "ytmplfpdokkcpcaa", sum := "32be6ff32a0b3394e03da9f8cfdc28dee1571b4f905f22fd955e521d6a7be4c6", func := "loop.example/g03407/laws.FnExactLargestRemainder", spec := "fnExactLargestRemainder", apart := false }
def FnExactLargestRemainderSaid : Prop := fnExactLargestRemainderRow.holds Try.pinned (OpenSpec.ofChange fnExactLargestRemainderSpec)

/-- ITS FALSE NEIGHBOUR: 'it returns false'. Refute it at one input. -/
def fnExactLargestRemainderWrong : ChangeSpec := { name := "fnExactLargestRemainder", fn := fun _ => fun
  | [d1, d2] => { results := [.lit (.bool false)], args := [d1, d2] }
  | _ => none }
def FnExactLargestRemainderWrongFalsely : Prop := fnExactLargestRemainderRow.holds Try.pinned (OpenSpec.ofChange fnExactLargestRemainderWrong)

/-- 'laws.FnClosest': WHATEVER THE INPUT: true; the input reads as it did. -/
def fnClosestSpec : ChangeSpec := { name := "fnClosest", fn := fun _ => fun
  | [d] => { results := [.lit (.bool true)], args := [d] }
  | _ => none }
def fnClosestRow : OpenClaim := { program := "ytmplfpdokkcpcaa", sum := "32be6ff32a0b3394e03da9f8cfdc28dee1571b4f905f22fd955e521d6a7be4c6", func := "loop.example/g03407/laws.FnClosest", spec := "fnClosest", apart := false }
def FnClosestSaid : Prop := fnClosestRow.holds Try.pinned (OpenSpec.ofChange fnClosestSpec)

/-- ITS FALSE NEIGHBOUR: 'it returns false'. Refute it at one input. -/
def fnClosestWrong : ChangeSpec := { name := "fnClosest", fn := fun _ => fun
  | [d] => { results := [.lit (.bool false)], args := [d] }
  | _ => none }
def FnClosestWrongFalsely : Prop := fnClosestRow.holds Try.pinned (OpenSpec.ofChange fnClosestWrong)

/-- 'laws.FnSharing': WHATEVER THE INPUT: true; the input reads as it did. -/
def fnSharingSpec : ChangeSpec := { name := "fnSharing", fn := fun _ => fun
  | [d] => { results := [.lit (.bool true)], args := [d] }
  | _ => none }
def fnSharingRow : OpenClaim := { program := "ytmplfpdokkcpcaa", sum := "32be6ff32a0b3394e03da9f8cfdc28dee1571b4f905f22fd955e521d6a7be4c6", func := "loop.example/g03407/laws.FnSharing", spec := "fnSharing", apart := false }
def FnSharingSaid : Prop := fnSharingRow.holds Try.pinned (OpenSpec.ofChange fnSharingSpec)

/-- ITS FALSE NEIGHBOUR: 'it returns false'. Refute it at one input. -/
def fnSharingWrong : ChangeSpec := { name := "fnSharing", fn := fun _ => fun
  | [d] => { results := [.lit (.bool false)], args := [d] }
  | _ => none }
def FnSharingWrongFalsely : Prop := fnSharingRow.holds Try.pinned (OpenSpec.ofChange fnSharingWrong)

/- THE SECOND FORM. 'bulk': how many values and letters a reading holds, each counted each time it is reached (what is shared counts as often as it is met; a slice's spare places count too). A statement '..UptoSaid' is the law's where the arguments, and the package variables that the reading takes, are together of bulk at most 1048576: NARROWER than '..Said'. Prove '..Said' where nothing that the law and all that it calls make is longer than what came in: it says more and counts as full. Else prove '..UptoSaid'. A law counts once. -/
mutual
def uptoBulk {H : Type} : DataW H → Nat
  | .lit (.string bytes) => bytes.length + 1
  | .lit _ => 1
  | .nil => 1
  | .ptr d => uptoBulk d + 1
  | .slice elems spare => uptoBulkAll elems + uptoBulkAll spare + 1
  | .agg parts => uptoBulkAll parts + 1
  | .iface _ d => uptoBulk d + 1
  | .map entries => uptoBulkEntries entries + 1
  | .held _ => 1
def uptoBulkAll {H : Type} : List (DataW H) → Nat
  | [] => 0
  | d :: r => uptoBulk d + uptoBulkAll r
def uptoBulkEntries {H : Type} : List (Lit × DataW H) → Nat
  | [] => 0
  | x :: r => uptoBulkEntry x + uptoBulkEntries r
def uptoBulkEntry {H : Type} : Lit × DataW H → Nat
  | (.string bytes, d) => bytes.length + uptoBulk d + 1
  | (_, d) => uptoBulk d + 1
 end
def uptoSmall : (H : Type) → List (DataW H) → Bool := fun _ ds => decide (uptoBulkAll ds ≤ 1048576)
def OpenSpec.upto (s : _root_.Go.ChangeSpec) : _root_.Go.OpenSpec := { _root_.Go.OpenSpec.ofChange s with cond := some uptoSmall }

/-- 'laws.FnExactAreWeights', WHERE WHAT IT READS IS OF BULK AT MOST 1048576: true; the input reads as it did. -/
def fnExactAreWeightsUptoRow : OpenClaim := { program := "ytmplfpdokkcpcaa", sum := "32be6ff32a0b3394e03da9f8cfdc28dee1571b4f905f22fd955e521d6a7be4c6", func := "loop.example/g03407/laws.FnExactAreWeights", spec := "fnExactAreWeights", apart := false, narrowed := true }
def FnExactAreWeightsUptoSaid : Prop := fnExactAreWeightsUptoRow.holds Try.pinned (OpenSpec.upto fnExactAreWeightsSpec)

/-- 'laws.FnExactShareUpTo', WHERE WHAT IT READS IS OF BULK AT MOST 1048576: true; the input reads as it did. -/
def fnExactShareUpToUptoRow : OpenClaim := { program := "ytmplfpdokkcpcaa", sum := "32be6ff32a0b3394e03da9f8cfdc28dee1571b4f905f22fd955e521d6a7be4c6", func := "loop.example/g03407/laws.FnExactShareUpTo", spec := "fnExactShareUpTo", apart := false, narrowed := true }
def FnExactShareUpToUptoSaid : Prop := fnExactShareUpToUptoRow.holds Try.pinned (OpenSpec.upto fnExactShareUpToSpec)

/-- 'laws.FnExactIsSharing', WHERE WHAT IT READS IS OF BULK AT MOST 1048576: true; the input reads as it did. -/
def fnExactIsSharingUptoRow : OpenClaim := { program := "ytmplfpdokkcpcaa", sum := "32be6ff32a0b3394e03da9f8cfdc28dee1571b4f905f22fd955e521d6a7be4c6", func := "loop.example/g03407/laws.FnExactIsSharing", spec := "fnExactIsSharing", apart := false, narrowed := true }
def FnExactIsSharingUptoSaid : Prop := fnExactIsSharingUptoRow.holds Try.pinned (OpenSpec.upto fnExactIsSharingSpec)

/-- 'laws.FnExactApportion', WHERE WHAT IT READS IS OF BULK AT MOST 1048576: true; the input reads as it did. -/
def fnExactApportionUptoRow : OpenClaim := { program := "ytmplfpdokkcpcaa", sum := "32be6ff32a0b3394e03da9f8cfdc28dee1571b4f905f22fd955e521d6a7be4c6", func := "loop.example/g03407/laws.FnExactApportion", spec := "fnExactApportion", apart := false, narrowed := true }
def FnExactApportionUptoSaid : Prop := fnExactApportionUptoRow.holds Try.pinned (OpenSpec.upto fnExactApportionSpec)

/-- 'laws.FnExactLargestRemainder', WHERE WHAT IT READS IS OF BULK AT MOST 1048576: true; the input reads as it did. -/
def fnExactLargestRemainderUptoRow : OpenClaim := { program := "ytmplfpdokkcpcaa", sum := "32be6ff32a0b3394e03da9f8cfdc28dee1571b4f905f22fd955e521d6a7be4c6", func := "loop.example/g03407/laws.FnExactLargestRemainder", spec := "fnExactLargestRemainder", apart := false, narrowed := true }
def FnExactLargestRemainderUptoSaid : Prop := fnExactLargestRemainderUptoRow.holds Try.pinned (OpenSpec.upto fnExactLargestRemainderSpec)

/-- 'laws.FnClosest', WHERE WHAT IT READS IS OF BULK AT MOST 1048576: true; the input reads as it did. -/
def fnClosestUptoRow : OpenClaim := { program := "ytmplfpdokkcpcaa", sum := "32be6ff32a0b3394e03da9f8cfdc28dee1571b4f905f22fd955e521d6a7be4c6", func := "loop.example/g03407/laws.FnClosest", spec := "fnClosest", apart := false, narrowed := true }
def FnClosestUptoSaid : Prop := fnClosestUptoRow.holds Try.pinned (OpenSpec.upto fnClosestSpec)

/-- 'laws.FnSharing', WHERE WHAT IT READS IS OF BULK AT MOST 1048576: true; the input reads as it did. -/
def fnSharingUptoRow : OpenClaim := { program := "ytmplfpdokkcpcaa", sum := "32be6ff32a0b3394e03da9f8cfdc28dee1571b4f905f22fd955e521d6a7be4c6", func := "loop.example/g03407/laws.FnSharing", spec := "fnSharing", apart := false, narrowed := true }
def FnSharingUptoSaid : Prop := fnSharingUptoRow.holds Try.pinned (OpenSpec.upto fnSharingSpec)

end Rows
end Go.Proofs.Ytmplfpdokkcpcaa
