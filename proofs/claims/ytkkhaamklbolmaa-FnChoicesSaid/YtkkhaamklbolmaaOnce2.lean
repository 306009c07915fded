/-
  Contract of l1Once: a bool is drawn.
-/
import Derived.Test.YtkkhaamklbolmaaDraw2
namespace Go.Proofs.Ytkkhaamklbolmaa
open Go.RowKit
set_option linter.unusedVariables false

def AnyBool (v : Value) : Prop := ∃ b : Bool, v = .bool b
theorem l1Once_any (B g : Nat) (w : World) (n : Int) (c : Cur B w g) (h1 : 1 ≤ n) (h2 : n ≤ 9223372036854775807) :
    Calls Try.prog 75 #[.pointer (some ⟨g, 0, none⟩), .int .i64 n] w (Drawn B g w AnyBool) := by
  go_enter Try.func75, Try.ntmps75
  go_wp2_with fail
  refine (l1Below_any B g _ _ c h1 h2).mono ?_
  rintro e w1 ⟨v, rfl, ⟨x, rfl, h0, h1⟩, c1, hg1⟩
  go_wp2_with fail
  go_ret
  exact ⟨_, rfl, ⟨_, rfl⟩, c1, hg1⟩
end Go.Proofs.Ytkkhaamklbolmaa
