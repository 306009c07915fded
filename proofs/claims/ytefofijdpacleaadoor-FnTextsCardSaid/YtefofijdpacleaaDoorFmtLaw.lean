/-
  Walk of the law FnExactFormatInt.
-/
import Derived.Test.YtefofijdpacleaaDoorFmt
import Derived.Test.YtefofijdpacleaaDoorShelf4D
import Derived.Below
import Derived.Lib.AppendIntMem
namespace Go.Proofs.YtefofijdpacleaaDoor
open Go.RowKit Go.Sort
set_option linter.unusedVariables false

/-- the table of strconv's, as the contract asks for it -/
def TabOk (w : World) : Prop := Lib.TabIs Tryd.prog w "internal/strconv.uint64pow10" .u64 Lib.pow10Tab
theorem impl_FormatInt (n : Int) (w : World) (h0 : -9223372036854775808 ≤ n) (h1 : n ≤ 9223372036854775807) (ht : TabOk w) :
    Calls Tryd.prog 12 #[.int .i64 n] w fun e w' => e = .returned (.string (itoaS n)) ∧ Below w.heap.size w w' := by
  have HT := Lib.hid ht
  clear ht
  go_enter Tryd.func12, Tryd.ntmps12
  go_wp2_with fail
  refine (Tryd.strconv_Itoa n h0 h1 w HT.out).mono ?_
  rintro e w1 ⟨rfl, k, os, hw⟩
  have hb : Below w.heap.size w w1 := by rw [hw]; exact Go.Lib.below_grow _ w (Nat.le_refl _) k os
  clear hw
  go_wp2_with fail
  go_ret
  exact ⟨rfl, hb⟩
theorem law_FormatInt (n : Int) (b : -9223372036854775808 ≤ n ∧ n ≤ 9223372036854775807) (w : World) (ht : TabOk w) :
    Calls Tryd.prog 5 #[.int .i64 n] w fun e w' => e = .returned (.bool true) ∧ Below w.heap.size w w' := by
  have HT := Lib.hid ht
  clear ht
  go_enter Tryd.func5, Tryd.ntmps5
  go_wp2_with fail
  refine (spec_FormatInt n _ b.1 b.2).mono ?_; rintro e w1 ⟨rfl, hw⟩; obtain rfl := hw.symm
  go_wp2_with fail
  refine (impl_FormatInt n _ b.1 b.2 HT.out).mono ?_; rintro e w2 ⟨rfl, hb⟩
  go_wp2_with fail
  go_ret
  exact ⟨rfl, hb⟩
end Go.Proofs.YtefofijdpacleaaDoor
