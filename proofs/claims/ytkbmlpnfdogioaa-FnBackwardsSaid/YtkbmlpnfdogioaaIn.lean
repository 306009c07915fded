/-
  Contracts of small functions on numbers.
-/
import Derived.Test.YtkbmlpnfdogioaaChecked
import Derived.WalkKit
import Derived.RegionTactic
import Derived.Deep.QuietTactic
import Derived.BigQuiet
import Derived.Handy
import Derived.Lib.Hide
namespace Go.Proofs.Ytkbmlpnfdogioaa
open Go.RowKit
set_option linter.unusedVariables false

theorem ret_i {k : IntKind} {a b : Int} (h : a = b) : Ending.returned (.int k a) = .returned (.int k b) := by rw [h]
theorem ret_b {a b : Bool} (h : a = b) : Ending.returned (.bool a) = .returned (.bool b) := by rw [h]
theorem natAbs_neg' {n : Int} (h : n ≤ 0) : -n = ((n.natAbs : Nat) : Int) := by omega
theorem natAbs_pos' {n : Int} (h : 0 ≤ n) : n = ((n.natAbs : Nat) : Int) := by omega
theorem in_any (n a b : Int) (w : World) : Calls Try.prog 38 #[.int .i64 n, .int .i64 a, .int .i64 b] w fun e w' => e = .returned (.bool (decide (a ≤ n ∧ n ≤ b))) ∧ w = w' := by
  by_cases h1 : a ≤ n
  · by_cases h2 : n ≤ b
    · go_enter Try.func38, Try.ntmps38
      go_wp2
      go_ret
      exact ⟨by simp [h1, h2], rfl⟩
    · have h2' : ¬ n ≤ b := h2
      go_enter Try.func38, Try.ntmps38
      go_wp2
      go_ret
      exact ⟨by simp; omega, rfl⟩
  · go_enter Try.func38, Try.ntmps38
    go_wp2
    go_ret
    exact ⟨by simp; omega, rfl⟩
theorem l1In_any (n a b : Int) (w : World) : Calls Try.prog 35 #[.int .i64 n, .int .i64 a, .int .i64 b] w fun e w' => e = .returned (.bool (decide (a ≤ n ∧ n ≤ b))) ∧ w = w' := by
  by_cases h1 : a ≤ n
  · by_cases h2 : n ≤ b
    · go_enter Try.func35, Try.ntmps35
      go_wp2
      go_ret
      exact ⟨by simp [h1, h2], rfl⟩
    · have h2' : ¬ n ≤ b := h2
      go_enter Try.func35, Try.ntmps35
      go_wp2
      go_ret
      exact ⟨by simp; omega, rfl⟩
  · go_enter Try.func35, Try.ntmps35
    go_wp2
    go_ret
    exact ⟨by simp; omega, rfl⟩
theorem in_yes (n a b : Int) (w : World) (h : a ≤ n ∧ n ≤ b) : Calls Try.prog 38 #[.int .i64 n, .int .i64 a, .int .i64 b] w fun e w' => e = .returned (.bool true) ∧ w' = w :=
  (in_any n a b w).mono fun _ _ k => ⟨by rw [k.1, decide_eq_true h], k.2.symm⟩
theorem in_no (n a b : Int) (w : World) (h : ¬ (a ≤ n ∧ n ≤ b)) : Calls Try.prog 38 #[.int .i64 n, .int .i64 a, .int .i64 b] w fun e w' => e = .returned (.bool false) ∧ w' = w :=
  (in_any n a b w).mono fun _ _ k => ⟨by rw [k.1, decide_eq_false h], k.2.symm⟩
theorem l1In_yes (n a b : Int) (w : World) (h : a ≤ n ∧ n ≤ b) : Calls Try.prog 35 #[.int .i64 n, .int .i64 a, .int .i64 b] w fun e w' => e = .returned (.bool true) ∧ w' = w :=
  (l1In_any n a b w).mono fun _ _ k => ⟨by rw [k.1, decide_eq_true h], k.2.symm⟩
theorem l1In_no (n a b : Int) (w : World) (h : ¬ (a ≤ n ∧ n ≤ b)) : Calls Try.prog 35 #[.int .i64 n, .int .i64 a, .int .i64 b] w fun e w' => e = .returned (.bool false) ∧ w' = w :=
  (l1In_any n a b w).mono fun _ _ k => ⟨by rw [k.1, decide_eq_false h], k.2.symm⟩
end Go.Proofs.Ytkbmlpnfdogioaa
