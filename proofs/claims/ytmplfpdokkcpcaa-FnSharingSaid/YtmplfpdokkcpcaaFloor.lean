/-
  Contracts of small functions on numbers.
-/
import Derived.Test.YtmplfpdokkcpcaaChecked
import Derived.WalkKit
import Derived.RegionTactic
import Derived.Deep.QuietTactic
import Derived.BigQuiet
import Derived.Handy
import Derived.Lib.Hide
import Derived.Test.YtmplfpdokkcpcaaIn
import Derived.Test.YtmplfpdokkcpcaaNum
namespace Go.Proofs.Ytmplfpdokkcpcaa
open Go.RowKit num
set_option linter.unusedVariables false

theorem tdiv_le {n g : Int} (hn : -2000000000000000000 ≤ n ∧ n ≤ 2000000000000000000) : -2000000000000000000 ≤ n.tdiv g ∧ n.tdiv g ≤ 2000000000000000000 := by
  have := Int.natAbs_tdiv_le_natAbs n g
  omega
theorem impl_floorOf (n d : Int) (w : World) (hd : 1 ≤ d) (hd2 : d ≤ 1000000000000000000) (hn : -1000000000000000000 ≤ n) (hn2 : n ≤ 1000000000000000000) :
    Calls Try.prog 33 #[.int .i64 n, .int .i64 d] w fun e w' => e = .returned (.int .i64 (n / d)) ∧ w' = w := by
  have h1 := tdiv_le (n := n) (g := d) ⟨by omega, by omega⟩
  obtain ⟨h2, h3⟩ := h1
  have hg := flo_go n d hd
  have hd0 : (d == 0) = false := by simp; omega
  by_cases hneg : n.tmod d < 0
  · rw [if_pos hneg] at hg
    rw [← hg]
    clear hg
    have hlt : n < 0 := by
      rcases Int.lt_or_le n 0 with k | k
      · exact k
      · have := Int.tmod_nonneg d k; omega
    go_enter Try.func33, Try.ntmps33
    go_wp2
    go_ret
    exact ⟨rfl, rfl⟩
  · rw [if_neg hneg] at hg
    rw [← hg]
    clear hg
    by_cases hlt : 0 ≤ n
    · have e1 : n.tdiv d = n / d := Int.tdiv_eq_ediv_of_nonneg hlt
      have e2 : n.tmod d = n % d := Int.tmod_eq_emod_of_nonneg hlt
      rw [e1] at h2 h3 ⊢
      rw [e2] at hneg
      clear e1 e2
      go_enter Try.func33, Try.ntmps33
      go_wp2
      go_ret
      exact ⟨rfl, rfl⟩
    · go_enter Try.func33, Try.ntmps33
      go_wp2
      go_ret
      exact ⟨rfl, rfl⟩
theorem flo_le {n d : Int} (hd : 1 ≤ d) (hn : -1000000000000000000 ≤ n ∧ n ≤ 1000000000000000000) : -1000000000000000000 ≤ n / d ∧ n / d ≤ 1000000000000000000 := by
  have e2 := Int.mul_ediv_add_emod n d
  have h1 : 0 ≤ n % d := Int.emod_nonneg n (by omega)
  have h2 : n % d < d := Int.emod_lt_of_pos n (by omega)
  constructor
  · by_cases h : n / d < -1000000000000000000
    · have := Int.mul_le_mul_of_nonneg_left (show n / d ≤ -1000000000000000001 by omega) (show 0 ≤ d by omega)
      omega
    · omega
  · by_cases h : 1000000000000000000 < n / d
    · have := Int.mul_le_mul_of_nonneg_left (show 1000000000000000001 ≤ n / d by omega) (show 0 ≤ d by omega)
      omega
    · omega
theorem impl_ceilOf (n d : Int) (w : World) (hd : 1 ≤ d) (hd2 : d ≤ 1000000000000000000) (hn : -1000000000000000000 ≤ n) (hn2 : n ≤ 1000000000000000000) :
    Calls Try.prog 34 #[.int .i64 n, .int .i64 d] w fun e w' => e = .returned (.int .i64 (-((-n) / d))) ∧ w' = w := by
  have hf := flo_le (n := -n) hd ⟨by omega, by omega⟩
  obtain ⟨h2, h3⟩ := hf
  go_enter Try.func34, Try.ntmps34
  go_wp2_with (go_at_call 33; refine (impl_floorOf _ _ _ (by omega) (by omega) (by omega) (by omega)).mono ?_; rintro e w' ⟨rfl, rfl⟩)
  go_ret
  exact ⟨rfl, rfl⟩
theorem spec_floorOf (n d : Int) (w : World) (hd : 1 ≤ d) (hd2 : d ≤ 1000000000000000000) (hn : -1000000000000000000 ≤ n) (hn2 : n ≤ 1000000000000000000) :
    Calls Try.prog 32 #[.int .i64 n, .int .i64 d] w fun e w' => e = .returned (.int .i64 (n / d)) ∧ w' = w := by
  have h1 := tdiv_le (n := n) (g := d) ⟨by omega, by omega⟩
  obtain ⟨h2, h3⟩ := h1
  have hg := flo_go n d hd
  have hd0 : (d == 0) = false := by simp; omega
  by_cases hneg : n.tmod d < 0
  · rw [if_pos hneg] at hg
    rw [← hg]
    clear hg
    have hlt : n < 0 := by
      rcases Int.lt_or_le n 0 with k | k
      · exact k
      · have := Int.tmod_nonneg d k; omega
    go_enter Try.func32, Try.ntmps32
    go_wp2
    go_ret
    exact ⟨rfl, rfl⟩
  · rw [if_neg hneg] at hg
    rw [← hg]
    clear hg
    by_cases hlt : 0 ≤ n
    · have e1 : n.tdiv d = n / d := Int.tdiv_eq_ediv_of_nonneg hlt
      have e2 : n.tmod d = n % d := Int.tmod_eq_emod_of_nonneg hlt
      rw [e1] at h2 h3 ⊢
      rw [e2] at hneg
      clear e1 e2
      go_enter Try.func32, Try.ntmps32
      go_wp2
      go_ret
      exact ⟨rfl, rfl⟩
    · go_enter Try.func32, Try.ntmps32
      go_wp2
      go_ret
      exact ⟨rfl, rfl⟩
end Go.Proofs.Ytmplfpdokkcpcaa
