/-
  Contracts of small functions on numbers.
-/
import Derived.Test.YtmplfpdokkcpcaaChecked
import Derived.WalkKit
import Derived.RegionTactic
import Derived.Deep.QuietTactic
import Derived.BigQuiet
import Derived.Handy
import Derived.Lib.Hide
import Derived.Test.YtmplfpdokkcpcaaIn
namespace Go.Proofs.Ytmplfpdokkcpcaa
open Go.RowKit
set_option linter.unusedVariables false

theorem absolute_any (n : Int) (w : World) (h1 : -4000000000000000000 ≤ n) (h2 : n ≤ 4000000000000000000) :
    Calls Try.prog 35 #[.int .i64 n] w fun e w' => e = .returned (.int .i64 (n.natAbs : Int)) ∧ w = w' := by
  by_cases h : n < 0
  · go_enter Try.func35, Try.ntmps35
    go_wp2
    go_ret
    exact ⟨ret_i (natAbs_neg' (by omega)), rfl⟩
  · go_enter Try.func35, Try.ntmps35
    go_wp2
    go_ret
    exact ⟨ret_i (natAbs_pos' (by omega)), rfl⟩
end Go.Proofs.Ytmplfpdokkcpcaa
