/-
  No cell of these rows narrows 'for every input' (looked for: loops, veiled, ifaces, maps, wideKeys, modest, calm, conditions, laid).
  DERIVED. THE GIVEN ROWS OF THIS SEAT. 10 by the template 'for every input the law returns true; each argument reads behind the call as it read before'; 0 by the template 'total and deterministic' (their statements: YtkkhaamklbolmaaTotals.lean).
  GIVEN WITH THE SEED: the statements are not yours to turn. If you find one false, say at which input.
  Laid BY PROGRAM, IN A SANDBOX (cutbox-rows.mjs): the forced cells as the released guide's own fill.sh prints them over the translation 2a0b171a85832ecb… (all of the seat's roots in one cut). By AI agents, Wed Nov 11 2026. No macro, syntax, notation, axiom, sorry.
-/
import Derived.Test.YtkkhaamklbolmaaChecked
import GoSem.Claim
import GoSem.ClaimJoined
import GoSem.ClaimMapViews
import Derived.JoinedTies
import Derived.KernelRfl
namespace Go.Proofs.Ytkkhaamklbolmaa
/- THE CELL 'sum', in the pinned program and in every row, IS THE sha256 OF THE DUMP (.gsa) THAT YtkkhaamklbolmaaProg.lean LOADS. Nothing in Lean hashes anything: it is a label: what it is worth is what the hold of that sum in a sandbox is worth. -/
noncomputable def Try.pinned : Pinned := { name := "ytkkhaamklbolmaa", sum := "2a0b171a85832ecbb472d4801d29fd19ca91bc9bd5a722bb12ac4ba26a4cbe56", checked := Try.checked }
namespace Rows
def none {H : Type} : Left H := { results := [], args := [] }

/-- 'laws.FnExactIsCond': WHATEVER THE INPUT: true; the input reads as it did. -/
def fnExactIsCondSpec : ChangeSpec := { name := "fnExactIsCond", fn := fun _ => fun
  | [d] => { results := [.lit (.bool true)], args := [d] }
  | _ => none }
def fnExactIsCondRow : OpenClaim := { program := "ytkkhaamklbolmaa", sum := "2a0b171a85832ecbb472d4801d29fd19ca91bc9bd5a722bb12ac4ba26a4cbe56", func := "loop.example/g03407/laws.FnExactIsCond", spec := "fnExactIsCond", apart := false }
def FnExactIsCondSaid : Prop := fnExactIsCondRow.holds Try.pinned (OpenSpec.ofChange fnExactIsCondSpec)

/-- ITS FALSE NEIGHBOUR: 'it returns false'. Refute it at one input. -/
def fnExactIsCondWrong : ChangeSpec := { name := "fnExactIsCond", fn := fun _ => fun
  | [d] => { results := [.lit (.bool false)], args := [d] }
  | _ => none }
def FnExactIsCondWrongFalsely : Prop := fnExactIsCondRow.holds Try.pinned (OpenSpec.ofChange fnExactIsCondWrong)

/-- 'laws.FnExactOptionsIn': WHATEVER THE INPUT: true; the input reads as it did. -/
def fnExactOptionsInSpec : ChangeSpec := { name := "fnExactOptionsIn", fn := fun _ => fun
  | [d] => { results := [.lit (.bool true)], args := [d] }
  | _ => none }
def fnExactOptionsInRow : OpenClaim := { program := "ytkkhaamklbolmaa", sum := "2a0b171a85832ecbb472d4801d29fd19ca91bc9bd5a722bb12ac4ba26a4cbe56", func := "loop.example/g03407/laws.FnExactOptionsIn", spec := "fnExactOptionsIn", apart := false }
def FnExactOptionsInSaid : Prop := fnExactOptionsInRow.holds Try.pinned (OpenSpec.ofChange fnExactOptionsInSpec)

/-- ITS FALSE NEIGHBOUR: 'it returns false'. Refute it at one input. -/
def fnExactOptionsInWrong : ChangeSpec := { name := "fnExactOptionsIn", fn := fun _ => fun
  | [d] => { results := [.lit (.bool false)], args := [d] }
  | _ => none }
def FnExactOptionsInWrongFalsely : Prop := fnExactOptionsInRow.holds Try.pinned (OpenSpec.ofChange fnExactOptionsInWrong)

/-- 'laws.FnExactFormatCond': WHATEVER THE INPUT: true; the input reads as it did. -/
def fnExactFormatCondSpec : ChangeSpec := { name := "fnExactFormatCond", fn := fun _ => fun
  | [d] => { results := [.lit (.bool true)], args := [d] }
  | _ => none }
def fnExactFormatCondRow : OpenClaim := { program := "ytkkhaamklbolmaa", sum := "2a0b171a85832ecbb472d4801d29fd19ca91bc9bd5a722bb12ac4ba26a4cbe56", func := "loop.example/g03407/laws.FnExactFormatCond", spec := "fnExactFormatCond", recurses := true, apart := false }
def FnExactFormatCondSaid : Prop := fnExactFormatCondRow.holds Try.pinned (OpenSpec.ofChange fnExactFormatCondSpec)

/-- ITS FALSE NEIGHBOUR: 'it returns false'. Refute it at one input. -/
def fnExactFormatCondWrong : ChangeSpec := { name := "fnExactFormatCond", fn := fun _ => fun
  | [d] => { results := [.lit (.bool false)], args := [d] }
  | _ => none }
def FnExactFormatCondWrongFalsely : Prop := fnExactFormatCondRow.holds Try.pinned (OpenSpec.ofChange fnExactFormatCondWrong)

/-- 'laws.FnExactHolds': WHATEVER THE INPUT: true; the input reads as it did. -/
def fnExactHoldsSpec : ChangeSpec := { name := "fnExactHolds", fn := fun _ => fun
  | [d1, d2] => { results := [.lit (.bool true)], args := [d1, d2] }
  | _ => none }
def fnExactHoldsRow : OpenClaim := { program := "ytkkhaamklbolmaa", sum := "2a0b171a85832ecbb472d4801d29fd19ca91bc9bd5a722bb12ac4ba26a4cbe56", func := "loop.example/g03407/laws.FnExactHolds", spec := "fnExactHolds", apart := false }
def FnExactHoldsSaid : Prop := fnExactHoldsRow.holds Try.pinned (OpenSpec.ofChange fnExactHoldsSpec)

/-- ITS FALSE NEIGHBOUR: 'it returns false'. Refute it at one input. -/
def fnExactHoldsWrong : ChangeSpec := { name := "fnExactHolds", fn := fun _ => fun
  | [d1, d2] => { results := [.lit (.bool false)], args := [d1, d2] }
  | _ => none }
def FnExactHoldsWrongFalsely : Prop := fnExactHoldsRow.holds Try.pinned (OpenSpec.ofChange fnExactHoldsWrong)

/-- 'laws.FnExactNegateCond': WHATEVER THE INPUT: true; the input reads as it did. -/
def fnExactNegateCondSpec : ChangeSpec := { name := "fnExactNegateCond", fn := fun _ => fun
  | [d] => { results := [.lit (.bool true)], args := [d] }
  | _ => none }
def fnExactNegateCondRow : OpenClaim := { program := "ytkkhaamklbolmaa", sum := "2a0b171a85832ecbb472d4801d29fd19ca91bc9bd5a722bb12ac4ba26a4cbe56", func := "loop.example/g03407/laws.FnExactNegateCond", spec := "fnExactNegateCond", recurses := true, apart := false }
def FnExactNegateCondSaid : Prop := fnExactNegateCondRow.holds Try.pinned (OpenSpec.ofChange fnExactNegateCondSpec)

/-- ITS FALSE NEIGHBOUR: 'it returns false'. Refute it at one input. -/
def fnExactNegateCondWrong : ChangeSpec := { name := "fnExactNegateCond", fn := fun _ => fun
  | [d] => { results := [.lit (.bool false)], args := [d] }
  | _ => none }
def FnExactNegateCondWrongFalsely : Prop := fnExactNegateCondRow.holds Try.pinned (OpenSpec.ofChange fnExactNegateCondWrong)

/-- 'laws.FnExactParseCond': WHATEVER THE INPUT: true; the input reads as it did. -/
def fnExactParseCondSpec : ChangeSpec := { name := "fnExactParseCond", fn := fun _ => fun
  | [d] => { results := [.lit (.bool true)], args := [d] }
  | _ => none }
def fnExactParseCondRow : OpenClaim := { program := "ytkkhaamklbolmaa", sum := "2a0b171a85832ecbb472d4801d29fd19ca91bc9bd5a722bb12ac4ba26a4cbe56", func := "loop.example/g03407/laws.FnExactParseCond", spec := "fnExactParseCond", recurses := true, apart := false }
def FnExactParseCondSaid : Prop := fnExactParseCondRow.holds Try.pinned (OpenSpec.ofChange fnExactParseCondSpec)

/-- ITS FALSE NEIGHBOUR: 'it returns false'. Refute it at one input. -/
def fnExactParseCondWrong : ChangeSpec := { name := "fnExactParseCond", fn := fun _ => fun
  | [d] => { results := [.lit (.bool false)], args := [d] }
  | _ => none }
def FnExactParseCondWrongFalsely : Prop := fnExactParseCondRow.holds Try.pinned (OpenSpec.ofChange fnExactParseCondWrong)

/-- 'laws.FnNegations': WHATEVER THE INPUT: true; the input reads as it did. -/
def fnNegationsSpec : ChangeSpec := { name := "fnNegations", fn := fun _ => fun
  | [d] => { results := [.lit (.bool true)], args := [d] }
  | _ => none }
def fnNegationsRow : OpenClaim := { program := "ytkkhaamklbolmaa", sum := "2a0b171a85832ecbb472d4801d29fd19ca91bc9bd5a722bb12ac4ba26a4cbe56", func := "loop.example/g03407/laws.FnNegations", spec := "fnNegations", recurses := true, apart := false }
def FnNegationsSaid : Prop := fnNegationsRow.holds Try.pinned (OpenSpec.ofChange fnNegationsSpec)

/-- ITS FALSE NEIGHBOUR: 'it returns false'. Refute it at one input. -/
def fnNegationsWrong : ChangeSpec := { name := "fnNegations", fn := fun _ => fun
  | [d] => { results := [.lit (.bool false)], args := [d] }
  | _ => none }
def FnNegationsWrongFalsely : Prop := fnNegationsRow.holds Try.pinned (OpenSpec.ofChange fnNegationsWrong)

/-- 'laws.FnConds': WHATEVER THE INPUT: true; the input reads as it did. -/
def fnCondsSpec : ChangeSpec := { name := "fnConds", fn := fun _ => fun
  | [d] => { results := [.lit (.bool true)], args := [d] }
  | _ => none }
def fnCondsRow : OpenClaim := { program := "ytkkhaamklbolmaa", sum := "2a0b171a85832ecbb472d4801d29fd19ca91bc9bd5a722bb12ac4ba26a4cbe56", func := "loop.example/g03407/laws.FnConds", spec := "fnConds", recurses := true, apart := false }
def FnCondsSaid : Prop := fnCondsRow.holds Try.pinned (OpenSpec.ofChange fnCondsSpec)

/-- ITS FALSE NEIGHBOUR: 'it returns false'. Refute it at one input. -/
def fnCondsWrong : ChangeSpec := { name := "fnConds", fn := fun _ => fun
  | [d] => { results := [.lit (.bool false)], args := [d] }
  | _ => none }
def FnCondsWrongFalsely : Prop := fnCondsRow.holds Try.pinned (OpenSpec.ofChange fnCondsWrong)

/-- 'laws.FnExactIsModel': WHATEVER THE INPUT: true; the input reads as it did. -/
def fnExactIsModelSpec : ChangeSpec := { name := "fnExactIsModel", fn := fun _ => fun
  | [d] => { results := [.lit (.bool true)], args := [d] }
  | _ => none }
def fnExactIsModelRow : OpenClaim := { program := "ytkkhaamklbolmaa", sum := "2a0b171a85832ecbb472d4801d29fd19ca91bc9bd5a722bb12ac4ba26a4cbe56", func := "loop.example/g03407/laws.FnExactIsModel", spec := "fnExactIsModel", apart := false }
def FnExactIsModelSaid : Prop := fnExactIsModelRow.holds Try.pinned (OpenSpec.ofChange fnExactIsModelSpec)

/-- ITS FALSE NEIGHBOUR: 'it returns false'. Refute it at one input. -/
def fnExactIsModelWrong : ChangeSpec := { name := "fnExactIsModel", fn := fun _ => fun
  | [d] => { results := [.lit (.bool false)], args := [d] }
  | _ => none }
def FnExactIsModelWrongFalsely : Prop := fnExactIsModelRow.holds Try.pinned (OpenSpec.ofChange fnExactIsModelWrong)

/-- 'laws.FnChoices': WHATEVER THE INPUT: true; the input reads as it did. -/
def fnChoicesSpec : ChangeSpec := { name := "fnChoices", fn := fun _ => fun
  | [d] => { results := [.lit (.bool true)], args := [d] }
  | _ => none }
def fnChoicesRow : OpenClaim := { program := "ytkkhaamklbolmaa", sum := "2a0b171a85832ecbb472d4801d29fd19ca91bc9bd5a722bb12ac4ba26a4cbe56", func := "loop.example/g03407/laws.FnChoices", spec := "fnChoices", recurses := true, apart := false }
def FnChoicesSaid : Prop := fnChoicesRow.holds Try.pinned (OpenSpec.ofChange fnChoicesSpec)

/-- ITS FALSE NEIGHBOUR: 'it returns false'. Refute it at one input. -/
def fnChoicesWrong : ChangeSpec := { name := "fnChoices", fn := fun _ => fun
  | [d] => { results := [.lit (.bool false)], args := [d] }
  | _ => none }
def FnChoicesWrongFalsely : Prop := fnChoicesRow.holds Try.pinned (OpenSpec.ofChange fnChoicesWrong)

/- THE SECOND FORM. 'bulk': how many values and letters a reading holds, each counted each time it is reached (what is shared counts as often as it is met; a slice's spare places count too). A statement '..UptoSaid' is the law's where the arguments, and the package variables that the reading takes, are together of bulk at most 1048576: NARROWER than '..Said'. Prove '..Said' where nothing that the law and all that it calls make is longer than what came in: it says more and counts as full. Else prove '..UptoSaid'. A law counts once. -/
mutual
def uptoBulk {H : Type} : DataW H → Nat
  | .lit (.string bytes) => bytes.length + 1
  | .lit _ => 1
  | .nil => 1
  | .ptr d => uptoBulk d + 1
  | .slice elems spare => uptoBulkAll elems + uptoBulkAll spare + 1
  | .agg parts => uptoBulkAll parts + 1
  | .iface _ d => uptoBulk d + 1
  | .map entries => uptoBulkEntries entries + 1
  | .held _ => 1
def uptoBulkAll {H : Type} : List (DataW H) → Nat
  | [] => 0
  | d :: r => uptoBulk d + uptoBulkAll r
def uptoBulkEntries {H : Type} : List (Lit × DataW H) → Nat
  | [] => 0
  | x :: r => uptoBulkEntry x + uptoBulkEntries r
def uptoBulkEntry {H : Type} : Lit × DataW H → Nat
  | (.string bytes, d) => bytes.length + uptoBulk d + 1
  | (_, d) => uptoBulk d + 1
 end
def uptoSmall : (H : Type) → List (DataW H) → Bool := fun _ ds => decide (uptoBulkAll ds ≤ 1048576)
def OpenSpec.upto (s : _root_.Go.ChangeSpec) : _root_.Go.OpenSpec := { _root_.Go.OpenSpec.ofChange s with cond := some uptoSmall }

/-- 'laws.FnExactIsCond', WHERE WHAT IT READS IS OF BULK AT MOST 1048576: true; the input reads as it did. -/
def fnExactIsCondUptoRow : OpenClaim := { program := "ytkkhaamklbolmaa", sum := "2a0b171a85832ecbb472d4801d29fd19ca91bc9bd5a722bb12ac4ba26a4cbe56", func := "loop.example/g03407/laws.FnExactIsCond", spec := "fnExactIsCond", apart := false, narrowed := true }
def FnExactIsCondUptoSaid : Prop := fnExactIsCondUptoRow.holds Try.pinned (OpenSpec.upto fnExactIsCondSpec)

/-- 'laws.FnExactOptionsIn', WHERE WHAT IT READS IS OF BULK AT MOST 1048576: true; the input reads as it did. -/
def fnExactOptionsInUptoRow : OpenClaim := { program := "ytkkhaamklbolmaa", sum := "2a0b171a85832ecbb472d4801d29fd19ca91bc9bd5a722bb12ac4ba26a4cbe56", func := "loop.example/g03407/laws.FnExactOptionsIn", spec := "fnExactOptionsIn", apart := false, narrowed := true }
def FnExactOptionsInUptoSaid : Prop := fnExactOptionsInUptoRow.holds Try.pinned (OpenSpec.upto fnExactOptionsInSpec)

/-- 'laws.FnExactFormatCond', WHERE WHAT IT READS IS OF BULK AT MOST 1048576: true; the input reads as it did. -/
def fnExactFormatCondUptoRow : OpenClaim := { program := "ytkkhaamklbolmaa", sum := "2a0b171a85832ecbb472d4801d29fd19ca91bc9bd5a722bb12ac4ba26a4cbe56", func := "loop.example/g03407/laws.FnExactFormatCond", spec := "fnExactFormatCond", recurses := true, apart := false, narrowed := true }
def FnExactFormatCondUptoSaid : Prop := fnExactFormatCondUptoRow.holds Try.pinned (OpenSpec.upto fnExactFormatCondSpec)

/-- 'laws.FnExactHolds', WHERE WHAT IT READS IS OF BULK AT MOST 1048576: true; the input reads as it did. -/
def fnExactHoldsUptoRow : OpenClaim := { program := "ytkkhaamklbolmaa", sum := "2a0b171a85832ecbb472d4801d29fd19ca91bc9bd5a722bb12ac4ba26a4cbe56", func := "loop.example/g03407/laws.FnExactHolds", spec := "fnExactHolds", apart := false, narrowed := true }
def FnExactHoldsUptoSaid : Prop := fnExactHoldsUptoRow.holds Try.pinned (OpenSpec.upto fnExactHoldsSpec)

/-- 'laws.FnExactNegateCond', WHERE WHAT IT READS IS OF BULK AT MOST 1048576: true; the input reads as it did. -/
def fnExactNegateCondUptoRow : OpenClaim := { program := "ytkkhaamklbolmaa", sum := "2a0b171a85832ecbb472d4801d29fd19ca91bc9bd5a722bb12ac4ba26a4cbe56", func := "loop.example/g03407/laws.FnExactNegateCond", spec := "fnExactNegateCond", recurses := true, apart := false, narrowed := true }
def FnExactNegateCondUptoSaid : Prop := fnExactNegateCondUptoRow.holds Try.pinned (OpenSpec.upto fnExactNegateCondSpec)

/-- 'laws.FnExactParseCond', WHERE WHAT IT READS IS OF BULK AT MOST 1048576: true; the input reads as it did. -/
def fnExactParseCondUptoRow : OpenClaim := { program := "ytkkhaamklbolmaa", sum := "2a0b171a85832ecbb472d4801d29fd19ca91bc9bd5a722bb12ac4ba26a4cbe56", func := "loop.example/g03407/laws.FnExactParseCond", spec := "fnExactParseCond", recurses := true, apart := false, narrowed := true }
def FnExactParseCondUptoSaid : Prop := fnExactParseCondUptoRow.holds Try.pinned (OpenSpec.upto fnExactParseCondSpec)

/-- 'laws.FnNegations', WHERE WHAT IT READS IS OF BULK AT MOST 1048576: true; the input reads as it did. -/
def fnNegationsUptoRow : OpenClaim := { program := "ytkkhaamklbolmaa", sum := "2a0b171a85832ecbb472d4801d29fd19ca91bc9bd5a722bb12ac4ba26a4cbe56", func := "loop.example/g03407/laws.FnNegations", spec := "fnNegations", recurses := true, apart := false, narrowed := true }
def FnNegationsUptoSaid : Prop := fnNegationsUptoRow.holds Try.pinned (OpenSpec.upto fnNegationsSpec)

/-- 'laws.FnConds', WHERE WHAT IT READS IS OF BULK AT MOST 1048576: true; the input reads as it did. -/
def fnCondsUptoRow : OpenClaim := { program := "ytkkhaamklbolmaa", sum := "2a0b171a85832ecbb472d4801d29fd19ca91bc9bd5a722bb12ac4ba26a4cbe56", func := "loop.example/g03407/laws.FnConds", spec := "fnConds", recurses := true, apart := false, narrowed := true }
def FnCondsUptoSaid : Prop := fnCondsUptoRow.holds Try.pinned (OpenSpec.upto fnCondsSpec)

/-- 'laws.FnExactIsModel', WHERE WHAT IT READS IS OF BULK AT MOST 1048576: true; the input reads as it did. -/
def fnExactIsModelUptoRow : OpenClaim := { program := "ytkkhaamklbolmaa", sum := "2a0b171a85832ecbb472d4801d29fd19ca91bc9bd5a722bb12ac4ba26a4cbe56", func := "loop.example/g03407/laws.FnExactIsModel", spec := "fnExactIsModel", apart := false, narrowed := true }
def FnExactIsModelUptoSaid : Prop := fnExactIsModelUptoRow.holds Try.pinned (OpenSpec.upto fnExactIsModelSpec)

/-- 'laws.FnChoices', WHERE WHAT IT READS IS OF BULK AT MOST 1048576: true; the input reads as it did. -/
def fnChoicesUptoRow : OpenClaim := { program := "ytkkhaamklbolmaa", sum := "2a0b171a85832ecbb472d4801d29fd19ca91bc9bd5a722bb12ac4ba26a4cbe56", func := "loop.example/g03407/laws.FnChoices", spec := "fnChoices", recurses := true, apart := false, narrowed := true }
def FnChoicesUptoSaid : Prop := fnChoicesUptoRow.holds Try.pinned (OpenSpec.upto fnChoicesSpec)

end Rows
end Go.Proofs.Ytkkhaamklbolmaa
