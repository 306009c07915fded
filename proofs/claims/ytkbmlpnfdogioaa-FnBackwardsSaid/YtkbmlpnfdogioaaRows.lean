/-
  No cell of these rows narrows 'for every input' (looked for: loops, veiled, ifaces, maps, wideKeys, modest, calm, conditions, laid).
  DERIVED. THE GIVEN ROWS OF THIS SEAT. 10 by the template 'for every input the law returns true; each argument reads behind the call as it read before'; 0 by the template 'total and deterministic' (their statements: YtkbmlpnfdogioaaTotals.lean).
  GIVEN WITH THE SEED: the statements are not yours to turn. If you find one false, say at which input.
  Laid BY PROGRAM, IN A SANDBOX (cutbox-rows.mjs): the forced cells as the released guide's own fill.sh prints them over the translation 4332bbe21e0b51fd… (all of the seat's roots in one cut). By AI agents, Wed Nov 11 2026. No macro, syntax, notation, axiom, sorry.
-/
import Derived.Test.YtkbmlpnfdogioaaChecked
import GoSem.Claim
import GoSem.ClaimJoined
import GoSem.ClaimMapViews
import Derived.JoinedTies
import Derived.KernelRfl
namespace Go.Proofs.Ytkbmlpnfdogioaa
/- THE CELL 'sum', in the pinned program and in every row, IS THE sha256 OF THE DUMP (.gsa) THAT YtkbmlpnfdogioaaProg.lean LOADS. Nothing in Lean hashes anything: it is a label: what it is worth is what the hold of that sum in a sandbox is worth. -/
noncomputable def Try.pinned : Pinned := { name := "ytkbmlpnfdogioaa", sum := "4332bbe21e0b51fd13d12ee34f0daa1d34aae913fac02f5c157ec5adc5ff9c0b", checked := Try.checked }
namespace Rows
def none {H : Type} : Left H := { results := [], args := [] }

/-- 'laws.FnExactIsCalendar': WHATEVER THE INPUT: true; the input reads as it did. -/
def fnExactIsCalendarSpec : ChangeSpec := { name := "fnExactIsCalendar", fn := fun _ => fun
  | [d] => { results := [.lit (.bool true)], args := [d] }
  | _ => none }
def fnExactIsCalendarRow : OpenClaim := { program := "ytkbmlpnfdogioaa", sum := "4332bbe21e0b51fd13d12ee34f0daa1d34aae913fac02f5c157ec5adc5ff9c0b", func := "loop.example/g03407/laws.FnExactIsCalendar", spec := "fnExactIsCalendar", apart := false }
def FnExactIsCalendarSaid : Prop := fnExactIsCalendarRow.holds Try.pinned (OpenSpec.ofChange fnExactIsCalendarSpec)

/-- ITS FALSE NEIGHBOUR: 'it returns false'. Refute it at one input. -/
def fnExactIsCalendarWrong : ChangeSpec := { name := "fnExactIsCalendar", fn := fun _ => fun
  | [d] => { results := [.lit (.bool false)], args := [d] }
  | _ => none }
def FnExactIsCalendarWrongFalsely : Prop := fnExactIsCalendarRow.holds Try.pinned (OpenSpec.ofChange fnExactIsCalendarWrong)

/-- 'laws.FnExactHoursOn': WHATEVER THE INPUT: true; the input reads as it did. -/
def fnExactHoursOnSpec : ChangeSpec := { name := "fnExactHoursOn", fn := fun _ => fun
  | [d1, d2] => { results := [.lit (.bool true)], args := [d1, d2] }
  | _ => none }
def fnExactHoursOnRow : OpenClaim := { program := "ytkbmlpnfdogioaa", sum := "4332bbe21e0b51fd13d12ee34f0daa1d34aae913fac02f5c157ec5adc5ff9c0b", func := "loop.example/g03407/laws.FnExactHoursOn", spec := "fnExactHoursOn", apart := false }
def FnExactHoursOnSaid : Prop := fnExactHoursOnRow.holds Try.pinned (OpenSpec.ofChange fnExactHoursOnSpec)

/-- ITS FALSE NEIGHBOUR: 'it returns false'. Refute it at one input. -/
def fnExactHoursOnWrong : ChangeSpec := { name := "fnExactHoursOn", fn := fun _ => fun
  | [d1, d2] => { results := [.lit (.bool false)], args := [d1, d2] }
  | _ => none }
def FnExactHoursOnWrongFalsely : Prop := fnExactHoursOnRow.holds Try.pinned (OpenSpec.ofChange fnExactHoursOnWrong)

/-- 'laws.FnHours': WHATEVER THE INPUT: true; the input reads as it did. -/
def fnHoursSpec : ChangeSpec := { name := "fnHours", fn := fun _ => fun
  | [d] => { results := [.lit (.bool true)], args := [d] }
  | _ => none }
def fnHoursRow : OpenClaim := { program := "ytkbmlpnfdogioaa", sum := "4332bbe21e0b51fd13d12ee34f0daa1d34aae913fac02f5c157ec5adc5ff9c0b", func := "loop.example/g03407/laws.FnHours", spec := "fnHours", apart := false }
def FnHoursSaid : Prop := fnHoursRow.holds Try.pinned (OpenSpec.ofChange fnHoursSpec)

/-- ITS FALSE NEIGHBOUR: 'it returns false'. Refute it at one input. -/
def fnHoursWrong : ChangeSpec := { name := "fnHours", fn := fun _ => fun
  | [d] => { results := [.lit (.bool false)], args := [d] }
  | _ => none }
def FnHoursWrongFalsely : Prop := fnHoursRow.holds Try.pinned (OpenSpec.ofChange fnHoursWrong)

/-- 'laws.FnFinish': WHATEVER THE INPUT: true; the input reads as it did. -/
def fnFinishSpec : ChangeSpec := { name := "fnFinish", fn := fun _ => fun
  | [d] => { results := [.lit (.bool true)], args := [d] }
  | _ => none }
def fnFinishRow : OpenClaim := { program := "ytkbmlpnfdogioaa", sum := "4332bbe21e0b51fd13d12ee34f0daa1d34aae913fac02f5c157ec5adc5ff9c0b", func := "loop.example/g03407/laws.FnFinish", spec := "fnFinish", apart := false }
def FnFinishSaid : Prop := fnFinishRow.holds Try.pinned (OpenSpec.ofChange fnFinishSpec)

/-- ITS FALSE NEIGHBOUR: 'it returns false'. Refute it at one input. -/
def fnFinishWrong : ChangeSpec := { name := "fnFinish", fn := fun _ => fun
  | [d] => { results := [.lit (.bool false)], args := [d] }
  | _ => none }
def FnFinishWrongFalsely : Prop := fnFinishRow.holds Try.pinned (OpenSpec.ofChange fnFinishWrong)

/-- 'laws.FnExactFinishDay': WHATEVER THE INPUT: true; the input reads as it did. -/
def fnExactFinishDaySpec : ChangeSpec := { name := "fnExactFinishDay", fn := fun _ => fun
  | [d1, d2, d3] => { results := [.lit (.bool true)], args := [d1, d2, d3] }
  | _ => none }
def fnExactFinishDayRow : OpenClaim := { program := "ytkbmlpnfdogioaa", sum := "4332bbe21e0b51fd13d12ee34f0daa1d34aae913fac02f5c157ec5adc5ff9c0b", func := "loop.example/g03407/laws.FnExactFinishDay", spec := "fnExactFinishDay", apart := false }
def FnExactFinishDaySaid : Prop := fnExactFinishDayRow.holds Try.pinned (OpenSpec.ofChange fnExactFinishDaySpec)

/-- ITS FALSE NEIGHBOUR: 'it returns false'. Refute it at one input. -/
def fnExactFinishDayWrong : ChangeSpec := { name := "fnExactFinishDay", fn := fun _ => fun
  | [d1, d2, d3] => { results := [.lit (.bool false)], args := [d1, d2, d3] }
  | _ => none }
def FnExactFinishDayWrongFalsely : Prop := fnExactFinishDayRow.holds Try.pinned (OpenSpec.ofChange fnExactFinishDayWrong)

/-- 'laws.FnExactHoursBetween': WHATEVER THE INPUT: true; the input reads as it did. -/
def fnExactHoursBetweenSpec : ChangeSpec := { name := "fnExactHoursBetween", fn := fun _ => fun
  | [d1, d2, d3] => { results := [.lit (.bool true)], args := [d1, d2, d3] }
  | _ => none }
def fnExactHoursBetweenRow : OpenClaim := { program := "ytkbmlpnfdogioaa", sum := "4332bbe21e0b51fd13d12ee34f0daa1d34aae913fac02f5c157ec5adc5ff9c0b", func := "loop.example/g03407/laws.FnExactHoursBetween", spec := "fnExactHoursBetween", apart := false }
def FnExactHoursBetweenSaid : Prop := fnExactHoursBetweenRow.holds Try.pinned (OpenSpec.ofChange fnExactHoursBetweenSpec)

/-- ITS FALSE NEIGHBOUR: 'it returns false'. Refute it at one input. -/
def fnExactHoursBetweenWrong : ChangeSpec := { name := "fnExactHoursBetween", fn := fun _ => fun
  | [d1, d2, d3] => { results := [.lit (.bool false)], args := [d1, d2, d3] }
  | _ => none }
def FnExactHoursBetweenWrongFalsely : Prop := fnExactHoursBetweenRow.holds Try.pinned (OpenSpec.ofChange fnExactHoursBetweenWrong)

/-- 'laws.FnExactWorkdaysBetween': WHATEVER THE INPUT: true; the input reads as it did. -/
def fnExactWorkdaysBetweenSpec : ChangeSpec := { name := "fnExactWorkdaysBetween", fn := fun _ => fun
  | [d1, d2, d3] => { results := [.lit (.bool true)], args := [d1, d2, d3] }
  | _ => none }
def fnExactWorkdaysBetweenRow : OpenClaim := { program := "ytkbmlpnfdogioaa", sum := "4332bbe21e0b51fd13d12ee34f0daa1d34aae913fac02f5c157ec5adc5ff9c0b", func := "loop.example/g03407/laws.FnExactWorkdaysBetween", spec := "fnExactWorkdaysBetween", apart := false }
def FnExactWorkdaysBetweenSaid : Prop := fnExactWorkdaysBetweenRow.holds Try.pinned (OpenSpec.ofChange fnExactWorkdaysBetweenSpec)

/-- ITS FALSE NEIGHBOUR: 'it returns false'. Refute it at one input. -/
def fnExactWorkdaysBetweenWrong : ChangeSpec := { name := "fnExactWorkdaysBetween", fn := fun _ => fun
  | [d1, d2, d3] => { results := [.lit (.bool false)], args := [d1, d2, d3] }
  | _ => none }
def FnExactWorkdaysBetweenWrongFalsely : Prop := fnExactWorkdaysBetweenRow.holds Try.pinned (OpenSpec.ofChange fnExactWorkdaysBetweenWrong)

/-- 'laws.FnWorkdays': WHATEVER THE INPUT: true; the input reads as it did. -/
def fnWorkdaysSpec : ChangeSpec := { name := "fnWorkdays", fn := fun _ => fun
  | [d] => { results := [.lit (.bool true)], args := [d] }
  | _ => none }
def fnWorkdaysRow : OpenClaim := { program := "ytkbmlpnfdogioaa", sum := "4332bbe21e0b51fd13d12ee34f0daa1d34aae913fac02f5c157ec5adc5ff9c0b", func := "loop.example/g03407/laws.FnWorkdays", spec := "fnWorkdays", apart := false }
def FnWorkdaysSaid : Prop := fnWorkdaysRow.holds Try.pinned (OpenSpec.ofChange fnWorkdaysSpec)

/-- ITS FALSE NEIGHBOUR: 'it returns false'. Refute it at one input. -/
def fnWorkdaysWrong : ChangeSpec := { name := "fnWorkdays", fn := fun _ => fun
  | [d] => { results := [.lit (.bool false)], args := [d] }
  | _ => none }
def FnWorkdaysWrongFalsely : Prop := fnWorkdaysRow.holds Try.pinned (OpenSpec.ofChange fnWorkdaysWrong)

/-- 'laws.FnExactAddWorkdays': WHATEVER THE INPUT: true; the input reads as it did. -/
def fnExactAddWorkdaysSpec : ChangeSpec := { name := "fnExactAddWorkdays", fn := fun _ => fun
  | [d1, d2, d3] => { results := [.lit (.bool true)], args := [d1, d2, d3] }
  | _ => none }
def fnExactAddWorkdaysRow : OpenClaim := { program := "ytkbmlpnfdogioaa", sum := "4332bbe21e0b51fd13d12ee34f0daa1d34aae913fac02f5c157ec5adc5ff9c0b", func := "loop.example/g03407/laws.FnExactAddWorkdays", spec := "fnExactAddWorkdays", apart := false }
def FnExactAddWorkdaysSaid : Prop := fnExactAddWorkdaysRow.holds Try.pinned (OpenSpec.ofChange fnExactAddWorkdaysSpec)

/-- ITS FALSE NEIGHBOUR: 'it returns false'. Refute it at one input. -/
def fnExactAddWorkdaysWrong : ChangeSpec := { name := "fnExactAddWorkdays", fn := fun _ => fun
  | [d1, d2, d3] => { results := [.lit (.bool false)], args := [d1, d2, d3] }
  | _ => none }
def FnExactAddWorkdaysWrongFalsely : Prop := fnExactAddWorkdaysRow.holds Try.pinned (OpenSpec.ofChange fnExactAddWorkdaysWrong)

/-- 'laws.FnBackwards': WHATEVER THE INPUT: true; the input reads as it did. -/
def fnBackwardsSpec : ChangeSpec := { name := "fnBackwards", fn := fun _ => fun
  | [d] => { results := [.lit (.bool true)], args := [d] }
  | _ => none }
def fnBackwardsRow : OpenClaim := { program := "ytkbmlpnfdogioaa", sum := "4332bbe21e0b51fd13d12ee34f0daa1d34aae913fac02f5c157ec5adc5ff9c0b", func := "loop.example/g03407/laws.FnBackwards", spec := "fnBackwards", apart := false }
def FnBackwardsSaid : Prop := fnBackwardsRow.holds Try.pinned (OpenSpec.ofChange fnBackwardsSpec)

/-- ITS FALSE NEIGHBOUR: 'it returns false'. Refute it at one input. -/
def fnBackwardsWrong : ChangeSpec := { name := "fnBackwards", fn := fun _ => fun
  | [d] => { results := [.lit (.bool false)], args := [d] }
  | _ => none }
def FnBackwardsWrongFalsely : Prop := fnBackwardsRow.holds Try.pinned (OpenSpec.ofChange fnBackwardsWrong)

/- THE SECOND FORM. 'bulk': how many values and letters a reading holds, each counted each time it is reached (what is shared counts as often as it is met; a slice's spare places count too). A statement '..UptoSaid' is the law's where the arguments, and the package variables that the reading takes, are together of bulk at most 1048576: NARROWER than '..Said'. Prove '..Said' where nothing that the law and all that it calls make is longer than what came in: it says more and counts as full. Else prove '..UptoSaid'. A law counts once. -/
mutual
def uptoBulk {H : Type} : DataW H → Nat
  | .lit (.string bytes) => bytes.length + 1
  | .lit _ => 1
  | .nil => 1
  | .ptr d => uptoBulk d + 1
  | .slice elems spare => uptoBulkAll elems + uptoBulkAll spare + 1
  | .agg parts => uptoBulkAll parts + 1
  | .iface _ d => uptoBulk d + 1
  | .map entries => uptoBulkEntries entries + 1
  | .held _ => 1
def uptoBulkAll {H : Type} : List (DataW H) → Nat
  | [] => 0
  | d :: r => uptoBulk d + uptoBulkAll r
def uptoBulkEntries {H : Type} : List (Lit × DataW H) → Nat
  | [] => 0
  | x :: r => uptoBulkEntry x + uptoBulkEntries r
def uptoBulkEntry {H : Type} : Lit × DataW H → Nat
  | (.string bytes, d) => bytes.length + uptoBulk d + 1
  | (_, d) => uptoBulk d + 1
 end
def uptoSmall : (H : Type) → List (DataW H) → Bool := fun _ ds => decide (uptoBulkAll ds ≤ 1048576)
def OpenSpec.upto (s : _root_.Go.ChangeSpec) : _root_.Go.OpenSpec := { _root_.Go.OpenSpec.ofChange s with cond := some uptoSmall }

/-- 'laws.FnExactIsCalendar', WHERE WHAT IT READS IS OF BULK AT MOST 1048576: true; the input reads as it did. -/
def fnExactIsCalendarUptoRow : OpenClaim := { program := "ytkbmlpnfdogioaa", sum := "4332bbe21e0b51fd13d12ee34f0daa1d34aae913fac02f5c157ec5adc5ff9c0b", func := "loop.example/g03407/laws.FnExactIsCalendar", spec := "fnExactIsCalendar", apart := false, narrowed := true }
def FnExactIsCalendarUptoSaid : Prop := fnExactIsCalendarUptoRow.holds Try.pinned (OpenSpec.upto fnExactIsCalendarSpec)

/-- 'laws.FnExactHoursOn', WHERE WHAT IT READS IS OF BULK AT MOST 1048576: true; the input reads as it did. -/
def fnExactHoursOnUptoRow : OpenClaim := { program := "ytkbmlpnfdogioaa", sum := "4332bbe21e0b51fd13d12ee34f0daa1d34aae913fac02f5c157ec5adc5ff9c0b", func := "loop.example/g03407/laws.FnExactHoursOn", spec := "fnExactHoursOn", apart := false, narrowed := true }
def FnExactHoursOnUptoSaid : Prop := fnExactHoursOnUptoRow.holds Try.pinned (OpenSpec.upto fnExactHoursOnSpec)

/-- 'laws.FnHours', WHERE WHAT IT READS IS OF BULK AT MOST 1048576: true; the input reads as it did. -/
def fnHoursUptoRow : OpenClaim := { program := "ytkbmlpnfdogioaa", sum := "4332bbe21e0b51fd13d12ee34f0daa1d34aae913fac02f5c157ec5adc5ff9c0b", func := "loop.example/g03407/laws.FnHours", spec := "fnHours", apart := false, narrowed := true }
def FnHoursUptoSaid : Prop := fnHoursUptoRow.holds Try.pinned (OpenSpec.upto fnHoursSpec)

/-- 'laws.FnFinish', WHERE WHAT IT READS IS OF BULK AT MOST 1048576: true; the input reads as it did. -/
def fnFinishUptoRow : OpenClaim := { program := "ytkbmlpnfdogioaa", sum := "4332bbe21e0b51fd13d12ee34f0daa1d34aae913fac02f5c157ec5adc5ff9c0b", func := "loop.example/g03407/laws.FnFinish", spec := "fnFinish", apart := false, narrowed := true }
def FnFinishUptoSaid : Prop := fnFinishUptoRow.holds Try.pinned (OpenSpec.upto fnFinishSpec)

/-- 'laws.FnExactFinishDay', WHERE WHAT IT READS IS OF BULK AT MOST 1048576: true; the input reads as it did. -/
def fnExactFinishDayUptoRow : OpenClaim := { program := "ytkbmlpnfdogioaa", sum := "4332bbe21e0b51fd13d12ee34f0daa1d34aae913fac02f5c157ec5adc5ff9c0b", func := "loop.example/g03407/laws.FnExactFinishDay", spec := "fnExactFinishDay", apart := false, narrowed := true }
def FnExactFinishDayUptoSaid : Prop := fnExactFinishDayUptoRow.holds Try.pinned (OpenSpec.upto fnExactFinishDaySpec)

/-- 'laws.FnExactHoursBetween', WHERE WHAT IT READS IS OF BULK AT MOST 1048576: true; the input reads as it did. -/
def fnExactHoursBetweenUptoRow : OpenClaim := { program := "ytkbmlpnfdogioaa", sum := "4332bbe21e0b51fd13d12ee34f0daa1d34aae913fac02f5c157ec5adc5ff9c0b", func := "loop.example/g03407/laws.FnExactHoursBetween", spec := "fnExactHoursBetween", apart := false, narrowed := true }
def FnExactHoursBetweenUptoSaid : Prop := fnExactHoursBetweenUptoRow.holds Try.pinned (OpenSpec.upto fnExactHoursBetweenSpec)

/-- 'laws.FnExactWorkdaysBetween', WHERE WHAT IT READS IS OF BULK AT MOST 1048576: true; the input reads as it did. -/
def fnExactWorkdaysBetweenUptoRow : OpenClaim := { program := "ytkbmlpnfdogioaa", sum := "4332bbe21e0b51fd13d12ee34f0daa1d34aae913fac02f5c157ec5adc5ff9c0b", func := "loop.example/g03407/laws.FnExactWorkdaysBetween", spec := "fnExactWorkdaysBetween", apart := false, narrowed := true }
def FnExactWorkdaysBetweenUptoSaid : Prop := fnExactWorkdaysBetweenUptoRow.holds Try.pinned (OpenSpec.upto fnExactWorkdaysBetweenSpec)

/-- 'laws.FnWorkdays', WHERE WHAT IT READS IS OF BULK AT MOST 1048576: true; the input reads as it did. -/
def fnWorkdaysUptoRow : OpenClaim := { program := "ytkbmlpnfdogioaa", sum := "4332bbe21e0b51fd13d12ee34f0daa1d34aae913fac02f5c157ec5adc5ff9c0b", func := "loop.example/g03407/laws.FnWorkdays", spec := "fnWorkdays", apart := false, narrowed := true }
def FnWorkdaysUptoSaid : Prop := fnWorkdaysUptoRow.holds Try.pinned (OpenSpec.upto fnWorkdaysSpec)

/-- 'laws.FnExactAddWorkdays', WHERE WHAT IT READS IS OF BULK AT MOST 1048576: true; the input reads as it did. -/
def fnExactAddWorkdaysUptoRow : OpenClaim := { program := "ytkbmlpnfdogioaa", sum := "4332bbe21e0b51fd13d12ee34f0daa1d34aae913fac02f5c157ec5adc5ff9c0b", func := "loop.example/g03407/laws.FnExactAddWorkdays", spec := "fnExactAddWorkdays", apart := false, narrowed := true }
def FnExactAddWorkdaysUptoSaid : Prop := fnExactAddWorkdaysUptoRow.holds Try.pinned (OpenSpec.upto fnExactAddWorkdaysSpec)

/-- 'laws.FnBackwards', WHERE WHAT IT READS IS OF BULK AT MOST 1048576: true; the input reads as it did. -/
def fnBackwardsUptoRow : OpenClaim := { program := "ytkbmlpnfdogioaa", sum := "4332bbe21e0b51fd13d12ee34f0daa1d34aae913fac02f5c157ec5adc5ff9c0b", func := "loop.example/g03407/laws.FnBackwards", spec := "fnBackwards", apart := false, narrowed := true }
def FnBackwardsUptoSaid : Prop := fnBackwardsUptoRow.holds Try.pinned (OpenSpec.upto fnBackwardsSpec)

end Rows
end Go.Proofs.Ytkbmlpnfdogioaa
