/-
  Walk of the law FnExactIsCode.
-/
import Derived.Test.YtefofijdpacleaaCode
import Derived.Below
namespace Go.Proofs.Ytefofijdpacleaa
open Go.RowKit
theorem law_IsCode (s : ByteArray) (hs : s.size ≤ maxLen) (w : World) :
    Calls Try.prog 3 #[.string s] w fun e w' => e = .returned (.bool true) ∧ Below w.heap.size w w' := by
  have hm : s.size ≤ 9223372036854775807 := by unfold maxLen at hs; omega
  clear hs
  by_cases hb : 1048576 < s.size
  · have hb' : (1048576 : Int) < (s.size : Int) := by omega
    go_enter Try.func3, Try.ntmps3
    go_wp2_with fail
    go_ret
    exact ⟨rfl, Below.refl _ _⟩
  · have hb' : ¬ (1048576 : Int) < (s.size : Int) := by omega
    have e1 : (isC s != isC s) = false := by simp
    go_enter Try.func3, Try.ntmps3
    go_wp2_with fail
    refine (spec_isCode s _ hm).mono ?_; rintro e w1 ⟨rfl, hw⟩; obtain rfl := hw.symm
    go_wp2_with fail
    refine (impl_isCode s _ hm).mono ?_; rintro e w1 ⟨rfl, hw⟩; obtain rfl := hw.symm
    go_wp2_with fail
    go_ret
    exact ⟨rfl, Below.refl _ _⟩
end Go.Proofs.Ytefofijdpacleaa
