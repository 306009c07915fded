/-
  No cell of these rows narrows 'for every input' (looked for: loops, veiled, ifaces, maps, wideKeys, modest, calm, conditions, laid).
  DERIVED. THE GIVEN ROWS OF THIS SEAT. 7 by the template 'for every input the law returns true; each argument reads behind the call as it read before'; 0 by the template 'total and deterministic' (their statements: YtccejhhhengpcaaTotals.lean).
  GIVEN WITH THE SEED: the statements are not yours to turn. If you find one false, say at which input.
  Laid BY PROGRAM, IN A SANDBOX (cutbox-rows.mjs): the forced cells as the released guide's own fill.sh prints them over the translation c2d876dc005ff610… (all of the seat's roots in one cut). By AI agents, Wed Nov 11 2026. No macro, syntax, notation, axiom, sorry.
-/
import Derived.Test.YtccejhhhengpcaaChecked
import GoSem.Claim
import GoSem.ClaimJoined
import GoSem.ClaimMapViews
import Derived.JoinedTies
import Derived.KernelRfl
namespace Go.Proofs.Ytccejhhhengpcaa
/- THE CELL 'sum', in the pinned program and in every row, IS THE sha256 OF THE DUMP (.gsa) THAT YtccejhhhengpcaaProg.lean LOADS. Nothing in Lean hashes anything: it is a label: what it is worth is what the hold of that sum in a sandbox is worth. -/
noncomputable def Try.pinned : Pinned := { name := "ytccejhhhengpcaa", sum := "c2d876dc005ff6100fa163835ed5ae3d32cea8fc720a92146f889d9861290b48", checked := Try.checked }
namespace Rows
def none {H : Type} : Left H := { results := [], args := [] }

/-- 'laws.FnExactIsUnitTable': WHATEVER THE INPUT: true; the input reads as it did. -/
def fnExactIsUnitTableSpec : ChangeSpec := { name := "fnExactIsUnitTable", fn := fun _ => fun
  | [d] => { results := [.lit (.bool true)], args := [d] }
  | _ => none }
def fnExactIsUnitTableRow : OpenClaim := { program := "ytccejhhhengpcaa", sum := "c2d876dc005ff6100fa163835ed5ae3d32cea8fc720a92146f889d9861290b48", func := "loop.example/g03407/laws.FnExactIsUnitTable", spec := "fnExactIsUnitTable", apart := false }
def FnExactIsUnitTableSaid : Prop := fnExactIsUnitTableRow.holds Try.pinned (OpenSpec.ofChange fnExactIsUnitTableSpec)

/-- ITS FALSE NEIGHBOUR: 'it returns false'. Refute it at one input. -/
def fnExactIsUnitTableWrong : ChangeSpec := { name := "fnExactIsUnitTable", fn := fun _ => fun
  | [d] => { results := [.lit (.bool false)], args := [d] }
  | _ => none }
def FnExactIsUnitTableWrongFalsely : Prop := fnExactIsUnitTableRow.holds Try.pinned (OpenSpec.ofChange fnExactIsUnitTableWrong)

/-- 'laws.FnExactFactorOf': WHATEVER THE INPUT: true; the input reads as it did. -/
def fnExactFactorOfSpec : ChangeSpec := { name := "fnExactFactorOf", fn := fun _ => fun
  | [d1, d2, d3] => { results := [.lit (.bool true)], args := [d1, d2, d3] }
  | _ => none }
def fnExactFactorOfRow : OpenClaim := { program := "ytccejhhhengpcaa", sum := "c2d876dc005ff6100fa163835ed5ae3d32cea8fc720a92146f889d9861290b48", func := "loop.example/g03407/laws.FnExactFactorOf", spec := "fnExactFactorOf", apart := false }
def FnExactFactorOfSaid : Prop := fnExactFactorOfRow.holds Try.pinned (OpenSpec.ofChange fnExactFactorOfSpec)

/-- ITS FALSE NEIGHBOUR: 'it returns false'. Refute it at one input. -/
def fnExactFactorOfWrong : ChangeSpec := { name := "fnExactFactorOf", fn := fun _ => fun
  | [d1, d2, d3] => { results := [.lit (.bool false)], args := [d1, d2, d3] }
  | _ => none }
def FnExactFactorOfWrongFalsely : Prop := fnExactFactorOfRow.holds Try.pinned (OpenSpec.ofChange fnExactFactorOfWrong)

/-- 'laws.FnUnits': WHATEVER THE INPUT: true; the input reads as it did. -/
def fnUnitsSpec : ChangeSpec := { name := "fnUnits", fn := fun _ => fun
  | [d] => { results := [.lit (.bool true)], args := [d] }
  | _ => none }
def fnUnitsRow : OpenClaim := { program := "ytccejhhhengpcaa", sum := "c2d876dc005ff6100fa163835ed5ae3d32cea8fc720a92146f889d9861290b48", func := "loop.example/g03407/laws.FnUnits", spec := "fnUnits", apart := false }
def FnUnitsSaid : Prop := fnUnitsRow.holds Try.pinned (OpenSpec.ofChange fnUnitsSpec)

/-- ITS FALSE NEIGHBOUR: 'it returns false'. Refute it at one input. -/
def fnUnitsWrong : ChangeSpec := { name := "fnUnits", fn := fun _ => fun
  | [d] => { results := [.lit (.bool false)], args := [d] }
  | _ => none }
def FnUnitsWrongFalsely : Prop := fnUnitsRow.holds Try.pinned (OpenSpec.ofChange fnUnitsWrong)

/-- 'laws.FnExactConvertDown': WHATEVER THE INPUT: true; the input reads as it did. -/
def fnExactConvertDownSpec : ChangeSpec := { name := "fnExactConvertDown", fn := fun _ => fun
  | [d1, d2, d3, d4] => { results := [.lit (.bool true)], args := [d1, d2, d3, d4] }
  | _ => none }
def fnExactConvertDownRow : OpenClaim := { program := "ytccejhhhengpcaa", sum := "c2d876dc005ff6100fa163835ed5ae3d32cea8fc720a92146f889d9861290b48", func := "loop.example/g03407/laws.FnExactConvertDown", spec := "fnExactConvertDown", apart := false }
def FnExactConvertDownSaid : Prop := fnExactConvertDownRow.holds Try.pinned (OpenSpec.ofChange fnExactConvertDownSpec)

/-- ITS FALSE NEIGHBOUR: 'it returns false'. Refute it at one input. -/
def fnExactConvertDownWrong : ChangeSpec := { name := "fnExactConvertDown", fn := fun _ => fun
  | [d1, d2, d3, d4] => { results := [.lit (.bool false)], args := [d1, d2, d3, d4] }
  | _ => none }
def FnExactConvertDownWrongFalsely : Prop := fnExactConvertDownRow.holds Try.pinned (OpenSpec.ofChange fnExactConvertDownWrong)

/-- 'laws.FnExactConvertUp': WHATEVER THE INPUT: true; the input reads as it did. -/
def fnExactConvertUpSpec : ChangeSpec := { name := "fnExactConvertUp", fn := fun _ => fun
  | [d1, d2, d3, d4] => { results := [.lit (.bool true)], args := [d1, d2, d3, d4] }
  | _ => none }
def fnExactConvertUpRow : OpenClaim := { program := "ytccejhhhengpcaa", sum := "c2d876dc005ff6100fa163835ed5ae3d32cea8fc720a92146f889d9861290b48", func := "loop.example/g03407/laws.FnExactConvertUp", spec := "fnExactConvertUp", apart := false }
def FnExactConvertUpSaid : Prop := fnExactConvertUpRow.holds Try.pinned (OpenSpec.ofChange fnExactConvertUpSpec)

/-- ITS FALSE NEIGHBOUR: 'it returns false'. Refute it at one input. -/
def fnExactConvertUpWrong : ChangeSpec := { name := "fnExactConvertUp", fn := fun _ => fun
  | [d1, d2, d3, d4] => { results := [.lit (.bool false)], args := [d1, d2, d3, d4] }
  | _ => none }
def FnExactConvertUpWrongFalsely : Prop := fnExactConvertUpRow.holds Try.pinned (OpenSpec.ofChange fnExactConvertUpWrong)

/-- 'laws.FnExactUnitsFrom': WHATEVER THE INPUT: true; the input reads as it did. -/
def fnExactUnitsFromSpec : ChangeSpec := { name := "fnExactUnitsFrom", fn := fun _ => fun
  | [d1, d2] => { results := [.lit (.bool true)], args := [d1, d2] }
  | _ => none }
def fnExactUnitsFromRow : OpenClaim := { program := "ytccejhhhengpcaa", sum := "c2d876dc005ff6100fa163835ed5ae3d32cea8fc720a92146f889d9861290b48", func := "loop.example/g03407/laws.FnExactUnitsFrom", spec := "fnExactUnitsFrom", apart := false }
def FnExactUnitsFromSaid : Prop := fnExactUnitsFromRow.holds Try.pinned (OpenSpec.ofChange fnExactUnitsFromSpec)

/-- ITS FALSE NEIGHBOUR: 'it returns false'. Refute it at one input. -/
def fnExactUnitsFromWrong : ChangeSpec := { name := "fnExactUnitsFrom", fn := fun _ => fun
  | [d1, d2] => { results := [.lit (.bool false)], args := [d1, d2] }
  | _ => none }
def FnExactUnitsFromWrongFalsely : Prop := fnExactUnitsFromRow.holds Try.pinned (OpenSpec.ofChange fnExactUnitsFromWrong)

/-- 'laws.FnConverts': WHATEVER THE INPUT: true; the input reads as it did. -/
def fnConvertsSpec : ChangeSpec := { name := "fnConverts", fn := fun _ => fun
  | [d] => { results := [.lit (.bool true)], args := [d] }
  | _ => none }
def fnConvertsRow : OpenClaim := { program := "ytccejhhhengpcaa", sum := "c2d876dc005ff6100fa163835ed5ae3d32cea8fc720a92146f889d9861290b48", func := "loop.example/g03407/laws.FnConverts", spec := "fnConverts", apart := false }
def FnConvertsSaid : Prop := fnConvertsRow.holds Try.pinned (OpenSpec.ofChange fnConvertsSpec)

/-- ITS FALSE NEIGHBOUR: 'it returns false'. Refute it at one input. -/
def fnConvertsWrong : ChangeSpec := { name := "fnConverts", fn := fun _ => fun
  | [d] => { results := [.lit (.bool false)], args := [d] }
  | _ => none }
def FnConvertsWrongFalsely : Prop := fnConvertsRow.holds Try.pinned (OpenSpec.ofChange fnConvertsWrong)

/- THE SECOND FORM. 'bulk': how many values and letters a reading holds, each counted each time it is reached (what is shared counts as often as it is met; a slice's spare places count too). A statement '..UptoSaid' is the law's where the arguments, and the package variables that the reading takes, are together of bulk at most 1048576: NARROWER than '..Said'. Prove '..Said' where nothing that the law and all that it calls make is longer than what came in: it says more and counts as full. Else prove '..UptoSaid'. A law counts once. -/
mutual
def uptoBulk {H : Type} : DataW H → Nat
  | .lit (.string bytes) => bytes.length + 1
  | .lit _ => 1
  | .nil => 1
  | .ptr d => uptoBulk d + 1
  | .slice elems spare => uptoBulkAll elems + uptoBulkAll spare + 1
  | .agg parts => uptoBulkAll parts + 1
  | .iface _ d => uptoBulk d + 1
  | .map entries => uptoBulkEntries entries + 1
  | .held _ => 1
def uptoBulkAll {H : Type} : List (DataW H) → Nat
  | [] => 0
  | d :: r => uptoBulk d + uptoBulkAll r
def uptoBulkEntries {H : Type} : List (Lit × DataW H) → Nat
  | [] => 0
  | x :: r => uptoBulkEntry x + uptoBulkEntries r
def uptoBulkEntry {H : Type} : Lit × DataW H → Nat
  | (.string bytes, d) => bytes.length + uptoBulk d + 1
  | (_, d) => uptoBulk d + 1
 end
def uptoSmall : (H : Type) → List (DataW H) → Bool := fun _ ds => decide (uptoBulkAll ds ≤ 1048576)
def OpenSpec.upto (s : _root_.Go.ChangeSpec) : _root_.Go.OpenSpec := { _root_.Go.OpenSpec.ofChange s with cond := some uptoSmall }

/-- 'laws.FnExactIsUnitTable', WHERE WHAT IT READS IS OF BULK AT MOST 1048576: true; the input reads as it did. -/
def fnExactIsUnitTableUptoRow : OpenClaim := { program := "ytccejhhhengpcaa", sum := "c2d876dc005ff6100fa163835ed5ae3d32cea8fc720a92146f889d9861290b48", func := "loop.example/g03407/laws.FnExactIsUnitTable", spec := "fnExactIsUnitTable", apart := false, narrowed := true }
def FnExactIsUnitTableUptoSaid : Prop := fnExactIsUnitTableUptoRow.holds Try.pinned (OpenSpec.upto fnExactIsUnitTableSpec)

/-- 'laws.FnExactFactorOf', WHERE WHAT IT READS IS OF BULK AT MOST 1048576: true; the input reads as it did. -/
def fnExactFactorOfUptoRow : OpenClaim := { program := "ytccejhhhengpcaa", sum := "c2d876dc005ff6100fa163835ed5ae3d32cea8fc720a92146f889d9861290b48", func := "loop.example/g03407/laws.FnExactFactorOf", spec := "fnExactFactorOf", apart := false, narrowed := true }
def FnExactFactorOfUptoSaid : Prop := fnExactFactorOfUptoRow.holds Try.pinned (OpenSpec.upto fnExactFactorOfSpec)

/-- 'laws.FnUnits', WHERE WHAT IT READS IS OF BULK AT MOST 1048576: true; the input reads as it did. -/
def fnUnitsUptoRow : OpenClaim := { program := "ytccejhhhengpcaa", sum := "c2d876dc005ff6100fa163835ed5ae3d32cea8fc720a92146f889d9861290b48", func := "loop.example/g03407/laws.FnUnits", spec := "fnUnits", apart := false, narrowed := true }
def FnUnitsUptoSaid : Prop := fnUnitsUptoRow.holds Try.pinned (OpenSpec.upto fnUnitsSpec)

/-- 'laws.FnExactConvertDown', WHERE WHAT IT READS IS OF BULK AT MOST 1048576: true; the input reads as it did. -/
def fnExactConvertDownUptoRow : OpenClaim := { program := "ytccejhhhengpcaa", sum := "c2d876dc005ff6100fa163835ed5ae3d32cea8fc720a92146f889d9861290b48", func := "loop.example/g03407/laws.FnExactConvertDown", spec := "fnExactConvertDown", apart := false, narrowed := true }
def FnExactConvertDownUptoSaid : Prop := fnExactConvertDownUptoRow.holds Try.pinned (OpenSpec.upto fnExactConvertDownSpec)

/-- 'laws.FnExactConvertUp', WHERE WHAT IT READS IS OF BULK AT MOST 1048576: true; the input reads as it did. -/
def fnExactConvertUpUptoRow : OpenClaim := { program := "ytccejhhhengpcaa", sum := "c2d876dc005ff6100fa163835ed5ae3d32cea8fc720a92146f889d9861290b48", func := "loop.example/g03407/laws.FnExactConvertUp", spec := "fnExactConvertUp", apart := false, narrowed := true }
def FnExactConvertUpUptoSaid : Prop := fnExactConvertUpUptoRow.holds Try.pinned (OpenSpec.upto fnExactConvertUpSpec)

/-- 'laws.FnExactUnitsFrom', WHERE WHAT IT READS IS OF BULK AT MOST 1048576: true; the input reads as it did. -/
def fnExactUnitsFromUptoRow : OpenClaim := { program := "ytccejhhhengpcaa", sum := "c2d876dc005ff6100fa163835ed5ae3d32cea8fc720a92146f889d9861290b48", func := "loop.example/g03407/laws.FnExactUnitsFrom", spec := "fnExactUnitsFrom", apart := false, narrowed := true }
def FnExactUnitsFromUptoSaid : Prop := fnExactUnitsFromUptoRow.holds Try.pinned (OpenSpec.upto fnExactUnitsFromSpec)

/-- 'laws.FnConverts', WHERE WHAT IT READS IS OF BULK AT MOST 1048576: true; the input reads as it did. -/
def fnConvertsUptoRow : OpenClaim := { program := "ytccejhhhengpcaa", sum := "c2d876dc005ff6100fa163835ed5ae3d32cea8fc720a92146f889d9861290b48", func := "loop.example/g03407/laws.FnConverts", spec := "fnConverts", apart := false, narrowed := true }
def FnConvertsUptoSaid : Prop := fnConvertsUptoRow.holds Try.pinned (OpenSpec.upto fnConvertsSpec)

end Rows
end Go.Proofs.Ytccejhhhengpcaa
