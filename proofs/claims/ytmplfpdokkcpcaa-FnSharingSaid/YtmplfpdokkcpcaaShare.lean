/-
  Contracts of ShareUpTo, of the program and of the reference.
-/
import Derived.Test.YtmplfpdokkcpcaaSum
import Derived.Test.YtmplfpdokkcpcaaFloor
import Derived.Deep.RegionHeld3
namespace Go.Proofs.Ytmplfpdokkcpcaa
open Go.RowKit cost num
set_option linter.unusedVariables false
set_option linter.unusedSimpArgs false

def sh (f : Nat → Int) (n : Nat) (t : Int) (k : Nat) : Int := (t * sumTo f k).tdiv (sumTo f n)
theorem aw_sums {f : Nat → Int} {n : Nat} (h : awB f n = true) : ∀ k, k ≤ n → 0 ≤ sumTo f k ∧ sumTo f k ≤ 40000000 := by
  rw [awB_iff] at h
  intro k hk
  have := sum_bounds h.1 k hk
  omega
theorem aw_prod {f : Nat → Int} {n : Nat} (h : awB f n = true) {t : Int} (ht : -1000000000 ≤ t ∧ t ≤ 1000000000) {k : Nat} (hk : k ≤ n) : -1000000000000000000 ≤ t * sumTo f k ∧ t * sumTo f k ≤ 1000000000000000000 := by
  have := aw_sums h k hk
  have := abs_mul_le t (sumTo f k) 1000000000 1000000000 ht (by omega)
  omega
theorem sh_bounds {f : Nat → Int} {n : Nat} (h : awB f n = true) {t : Int} (ht : -1000000000 ≤ t ∧ t ≤ 1000000000) {k : Nat} (hk : k ≤ n) : -1000000000000000000 ≤ sh f n t k ∧ sh f n t k ≤ 1000000000000000000 := by
  have h1 := aw_prod h ht hk
  have := Int.natAbs_tdiv_le_natAbs (t * sumTo f k) (sumTo f n)
  unfold sh
  omega
theorem aw_n {f : Nat → Int} {n : Nat} (h : awB f n = true) : 1 ≤ n ∧ n ≤ 40 ∧ 0 < sumTo f n := by
  rw [awB_iff] at h
  refine ⟨?_, h.2.1, h.2.2⟩
  by_cases e : n = 0
  · subst e; have := h.2.2; simp [sumTo] at this
  · omega

theorem impl_share_no1 (w : World) (A : Option Addr) (n cap : Nat) (f : Nat → Int) (h : IntsF w A n cap f) (t : Int) (k : Int) (haw : awB f n = false) :
    Calls Try.prog 15 #[.int .i64 t, .slice A n cap, .int .i64 k] w fun e w' => e = .returned (.tuple #[.int .i64 0, .bool false]) ∧ w' = w := by
  have hn : n ≤ 9223372036854775807 := by have := h.max; have := h.le; omega
  have H := Lib.hid h
  clear h
  go_enter Try.func15, Try.ntmps15
  go_wp2_with (first | (go_at_call 12; refine (impl_areWeights _ _ _ _ _ H.out).mono ?_; rintro e w' ⟨rfl, rfl⟩) | (go_at_call 30; refine (in_yes _ _ _ _ (by omega)).mono ?_; rintro e w' ⟨rfl, rfl⟩) | (go_at_call 30; refine (in_no _ _ _ _ (by omega)).mono ?_; rintro e w' ⟨rfl, rfl⟩))
  go_ret2
  exact ⟨rfl, rfl⟩
theorem impl_share_no2 (w : World) (A : Option Addr) (n cap : Nat) (f : Nat → Int) (h : IntsF w A n cap f) (t : Int) (k : Int) (haw : awB f n = true) (ht : ¬ (-1000000000 ≤ t ∧ t ≤ 1000000000)) :
    Calls Try.prog 15 #[.int .i64 t, .slice A n cap, .int .i64 k] w fun e w' => e = .returned (.tuple #[.int .i64 0, .bool false]) ∧ w' = w := by
  have hn : n ≤ 9223372036854775807 := by have := h.max; have := h.le; omega
  have H := Lib.hid h
  clear h
  go_enter Try.func15, Try.ntmps15
  go_wp2_with (first | (go_at_call 12; refine (impl_areWeights _ _ _ _ _ H.out).mono ?_; rintro e w' ⟨rfl, rfl⟩) | (go_at_call 30; refine (in_no _ _ _ _ (by omega)).mono ?_; rintro e w' ⟨rfl, rfl⟩))
  go_ret2
  exact ⟨rfl, rfl⟩
theorem impl_share_no3 (w : World) (A : Option Addr) (n cap : Nat) (f : Nat → Int) (h : IntsF w A n cap f) (t : Int) (k : Int) (haw : awB f n = true) (ht : -1000000000 ≤ t ∧ t ≤ 1000000000) (hk : ¬ (0 ≤ k ∧ k ≤ n)) :
    Calls Try.prog 15 #[.int .i64 t, .slice A n cap, .int .i64 k] w fun e w' => e = .returned (.tuple #[.int .i64 0, .bool false]) ∧ w' = w := by
  have hn : n ≤ 9223372036854775807 := by have := h.max; have := h.le; omega
  have H := Lib.hid h
  clear h
  go_enter Try.func15, Try.ntmps15
  go_wp2_with (first | (go_at_call 12; refine (impl_areWeights _ _ _ _ _ H.out).mono ?_; rintro e w' ⟨rfl, rfl⟩) | (go_at_call 30; refine (in_yes _ _ _ _ (by omega)).mono ?_; rintro e w' ⟨rfl, rfl⟩) | (go_at_call 30; refine (in_no _ _ _ _ (by omega)).mono ?_; rintro e w' ⟨rfl, rfl⟩))
  go_ret2
  exact ⟨rfl, rfl⟩
theorem impl_share_yes (w : World) (A : Option Addr) (n cap : Nat) (f : Nat → Int) (h : IntsF w A n cap f) (t : Int) (k : Nat) (haw : awB f n = true) (ht : -1000000000 ≤ t ∧ t ≤ 1000000000) (hk : k ≤ n) :
    Calls Try.prog 15 #[.int .i64 t, .slice A n cap, .int .i64 (k : Int)] w fun e w' => e = .returned (.tuple #[.int .i64 (sh f n t k), .bool true]) ∧ w' = w := by
  have hn : n ≤ 9223372036854775807 := by have := h.max; have := h.le; omega
  have H := Lib.hid h
  clear h
  obtain ⟨n1, n40, hpos⟩ := aw_n haw
  have hsums := aw_sums haw
  obtain ⟨p1, p2⟩ := aw_prod haw ht hk
  obtain ⟨q1, q2⟩ := tdiv_le (n := t * sumTo f k) (g := sumTo f n) ⟨by omega, by omega⟩
  have hz : (sumTo f n == 0) = false := by simp; omega
  have hkc : k ≤ cap := by have := H.out.le; omega
  obtain ⟨b, o, rfl, _⟩ := H.out.cell 0 (by omega)
  have HS := Lib.hid hsums
  clear hsums
  have hk' : (k : Int) ≤ (n : Int) := by omega
  have hkc' : (k : Int) ≤ (cap : Int) := by omega
  unfold sh
  go_enter Try.func15, Try.ntmps15
  go_wp2_with (first | (go_at_call 12; refine (impl_areWeights _ _ _ _ _ H.out).mono ?_; rintro e w' ⟨rfl, rfl⟩) | (go_at_call 30; refine (in_yes _ _ _ _ (by omega)).mono ?_; rintro e w' ⟨rfl, rfl⟩))
  refine (impl_sumOf _ _ _ _ _ (H.out.short hk) (fun j hj => by have := HS.out j (by omega); omega)).mono ?_
  rintro e w1 ⟨rfl, rfl⟩
  go_wp2_with fail
  refine (impl_sumOf _ _ _ _ _ H.out (fun j hj => by have := HS.out j hj; omega)).mono ?_
  rintro e w1 ⟨rfl, rfl⟩
  go_wp2_with fail
  go_ret2
  exact ⟨rfl, rfl⟩
theorem spec_share_no1 (w : World) (A : Option Addr) (n cap : Nat) (f : Nat → Int) (h : IntsF w A n cap f) (t : Int) (k : Int) (haw : awB f n = false) :
    Calls Try.prog 14 #[.int .i64 t, .slice A n cap, .int .i64 k] w fun e w' => e = .returned (.tuple #[.int .i64 0, .bool false]) ∧ w' = w := by
  have hn : n ≤ 9223372036854775807 := by have := h.max; have := h.le; omega
  have H := Lib.hid h
  clear h
  go_enter Try.func14, Try.ntmps14
  go_wp2_with (first | (go_at_call 10; refine (spec_areWeights _ _ _ _ _ H.out).mono ?_; rintro e w' ⟨rfl, rfl⟩) | (go_at_call 28; refine (l1In_yes _ _ _ _ (by omega)).mono ?_; rintro e w' ⟨rfl, rfl⟩) | (go_at_call 28; refine (l1In_no _ _ _ _ (by omega)).mono ?_; rintro e w' ⟨rfl, rfl⟩))
  go_ret2
  exact ⟨rfl, rfl⟩
theorem spec_share_no2 (w : World) (A : Option Addr) (n cap : Nat) (f : Nat → Int) (h : IntsF w A n cap f) (t : Int) (k : Int) (haw : awB f n = true) (ht : ¬ (-1000000000 ≤ t ∧ t ≤ 1000000000)) :
    Calls Try.prog 14 #[.int .i64 t, .slice A n cap, .int .i64 k] w fun e w' => e = .returned (.tuple #[.int .i64 0, .bool false]) ∧ w' = w := by
  have hn : n ≤ 9223372036854775807 := by have := h.max; have := h.le; omega
  have H := Lib.hid h
  clear h
  go_enter Try.func14, Try.ntmps14
  go_wp2_with (first | (go_at_call 10; refine (spec_areWeights _ _ _ _ _ H.out).mono ?_; rintro e w' ⟨rfl, rfl⟩) | (go_at_call 28; refine (l1In_no _ _ _ _ (by omega)).mono ?_; rintro e w' ⟨rfl, rfl⟩))
  go_ret2
  exact ⟨rfl, rfl⟩
theorem spec_share_no3 (w : World) (A : Option Addr) (n cap : Nat) (f : Nat → Int) (h : IntsF w A n cap f) (t : Int) (k : Int) (haw : awB f n = true) (ht : -1000000000 ≤ t ∧ t ≤ 1000000000) (hk : ¬ (0 ≤ k ∧ k ≤ n)) :
    Calls Try.prog 14 #[.int .i64 t, .slice A n cap, .int .i64 k] w fun e w' => e = .returned (.tuple #[.int .i64 0, .bool false]) ∧ w' = w := by
  have hn : n ≤ 9223372036854775807 := by have := h.max; have := h.le; omega
  have H := Lib.hid h
  clear h
  go_enter Try.func14, Try.ntmps14
  go_wp2_with (first | (go_at_call 10; refine (spec_areWeights _ _ _ _ _ H.out).mono ?_; rintro e w' ⟨rfl, rfl⟩) | (go_at_call 28; refine (l1In_yes _ _ _ _ (by omega)).mono ?_; rintro e w' ⟨rfl, rfl⟩) | (go_at_call 28; refine (l1In_no _ _ _ _ (by omega)).mono ?_; rintro e w' ⟨rfl, rfl⟩))
  go_ret2
  exact ⟨rfl, rfl⟩
theorem spec_share_yes (w : World) (A : Option Addr) (n cap : Nat) (f : Nat → Int) (h : IntsF w A n cap f) (t : Int) (k : Nat) (haw : awB f n = true) (ht : -1000000000 ≤ t ∧ t ≤ 1000000000) (hk : k ≤ n) :
    Calls Try.prog 14 #[.int .i64 t, .slice A n cap, .int .i64 (k : Int)] w fun e w' => e = .returned (.tuple #[.int .i64 (sh f n t k), .bool true]) ∧ w' = w := by
  have hn : n ≤ 9223372036854775807 := by have := h.max; have := h.le; omega
  have H := Lib.hid h
  clear h
  obtain ⟨n1, n40, hpos⟩ := aw_n haw
  have hsums := aw_sums haw
  obtain ⟨p1, p2⟩ := aw_prod haw ht hk
  obtain ⟨q1, q2⟩ := tdiv_le (n := t * sumTo f k) (g := sumTo f n) ⟨by omega, by omega⟩
  have hz : (sumTo f n == 0) = false := by simp; omega
  have hkc : k ≤ cap := by have := H.out.le; omega
  obtain ⟨b, o, rfl, _⟩ := H.out.cell 0 (by omega)
  have HS := Lib.hid hsums
  clear hsums
  have hk' : (k : Int) ≤ (n : Int) := by omega
  have hkc' : (k : Int) ≤ (cap : Int) := by omega
  unfold sh
  go_enter Try.func14, Try.ntmps14
  go_wp2_with (first | (go_at_call 10; refine (spec_areWeights _ _ _ _ _ H.out).mono ?_; rintro e w' ⟨rfl, rfl⟩) | (go_at_call 28; refine (l1In_yes _ _ _ _ (by omega)).mono ?_; rintro e w' ⟨rfl, rfl⟩))
  refine (spec_l1Sum _ _ _ _ _ (H.out.short hk) (fun j hj => by have := HS.out j (by omega); omega)).mono ?_
  rintro e w1 ⟨rfl, rfl⟩
  go_wp2_with fail
  refine (spec_l1Sum _ _ _ _ _ H.out (fun j hj => by have := HS.out j hj; omega)).mono ?_
  rintro e w1 ⟨rfl, rfl⟩
  go_wp2_with fail
  go_ret2
  exact ⟨rfl, rfl⟩
end Go.Proofs.Ytmplfpdokkcpcaa
