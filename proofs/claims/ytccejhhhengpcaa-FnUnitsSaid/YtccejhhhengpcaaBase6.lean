/-
  Contracts of the small functions on numbers and ratios: what each computes, and that it changes no memory that was there.
-/
import Derived.Test.YtccejhhhengpcaaChecked
import Derived.Test.YtccejhhhengpcaaNum
import Derived.Test.YtccejhhhengpcaaWorlds
import Derived.WalkKit
import Derived.RegionTactic
import Derived.Deep.QuietTactic
import Derived.BigQuiet
import Derived.Handy
import Derived.Lib.Hide
namespace Go.Proofs.Ytccejhhhengpcaa
open Go.RowKit num

theorem ret_i {k : IntKind} {a b : Int} (h : a = b) : Ending.returned (.int k a) = .returned (.int k b) := by rw [h]
theorem ret_b {a b : Bool} (h : a = b) : Ending.returned (.bool a) = .returned (.bool b) := by rw [h]
theorem natAbs_neg' {n : Int} (h : n ≤ 0) : -n = ((n.natAbs : Nat) : Int) := by omega
theorem natAbs_pos' {n : Int} (h : 0 ≤ n) : n = ((n.natAbs : Nat) : Int) := by omega

theorem isR_no1 {a b : Int} (h : ¬ (1 ≤ b ∧ b ≤ 1000000000)) : isR a b = false := by rw [Bool.eq_false_iff]; intro k; rw [isR_iff] at k; exact h ⟨k.1, k.2.1⟩
theorem isR_no2 {a b : Int} (h : ¬ (-1000000000 ≤ a ∧ a ≤ 1000000000)) : isR a b = false := by rw [Bool.eq_false_iff]; intro k; rw [isR_iff] at k; exact h ⟨k.2.2.1, k.2.2.2.1⟩
theorem isR_yes {a b : Int} (h : 1 ≤ b ∧ b ≤ 1000000000) (h2 : -1000000000 ≤ a ∧ a ≤ 1000000000) : isR a b = (gcdI a b == 1) := by
  rw [Bool.eq_iff_iff, isR_iff]; simp [h, h2]

theorem in_any (n a b : Int) (w : World) : Calls Try.prog 51 #[.int .i64 n, .int .i64 a, .int .i64 b] w fun e w' => e = .returned (.bool (decide (a ≤ n ∧ n ≤ b))) ∧ w = w' := by
  by_cases h1 : a ≤ n
  · by_cases h2 : n ≤ b
    · go_enter Try.func51, Try.ntmps51
      go_wp2
      go_ret
      exact ⟨by simp [h1, h2], rfl⟩
    · have h2' : ¬ n ≤ b := h2
      go_enter Try.func51, Try.ntmps51
      go_wp2
      go_ret
      exact ⟨by simp; omega, rfl⟩
  · go_enter Try.func51, Try.ntmps51
    go_wp2
    go_ret
    exact ⟨by simp; omega, rfl⟩

theorem divisor_any (a b : Int) (w : World) (ha : 0 ≤ a) (hb : 0 ≤ b) (ha2 : a ≤ 9223372036854775807) (hb2 : b ≤ 9223372036854775807) :
    Calls Try.prog 69 #[.int .i64 a, .int .i64 b] w fun e w' => e = .returned (.int .i64 (gcdI a b)) ∧ ∃ n, w' = w.drewN n := by
  obtain ⟨g, hg⟩ : ∃ g, g = gcdI a b := ⟨_, rfl⟩
  have HG := Lib.hid hg
  rw [← hg]
  clear hg
  go_enter Try.func69, Try.ntmps69
  go_wp2
  go_loopw [0, 1] (fun x y wr => ∃ (p q : Int) (n : Nat), 0 ≤ p ∧ 0 ≤ q ∧ p ≤ 9223372036854775807 ∧ q ≤ 9223372036854775807 ∧ x = .int .i64 p ∧ y = .int .i64 q ∧ Hid (g = gcdI p q) ∧ wr = w.drewN n) (fun _ y _ => (intOf y).toNat)
  case atStart => exact ⟨a, b, 0, ha, hb, ha2, hb2, rfl, rfl, HG, rfl⟩
  case round =>
    obtain ⟨p, q, n, hp, hq, hp2, hq2, rfl, rfl, H, rfl⟩ := hrel
    by_cases hq0 : q = 0
    · subst hq0
      go_wp2
      go_ret
      refine ⟨?_, n, rfl⟩
      exact ret_i (by rw [H.out, gcdI_zero]; exact natAbs_pos' hp)
    · have e1 : (q == 0) = false := by simp [hq0]
      have e2 : (q != 0) = true := by simp [hq0]
      have hm1 : 0 ≤ p % q := Int.emod_nonneg p hq0
      have hm2 : p % q < q := Int.emod_lt_of_pos p (by omega)
      go_wp2
      go_quiet (fail)
      go_wp2
      go_roundw
      case rel => exact ⟨q, p % q, n + nq, hq, hm1, hq2, by omega, rfl, rfl, (by have := H.out; show _ = _; rw [this, gcdI_emod _ _ hp]), by rw [World.drewN_drewN]⟩
      case measure => simp [intOf]; omega

theorem l2Gcd_any (a b : Int) (w : World) (ha : -4000000000000000000 ≤ a) (hb : -4000000000000000000 ≤ b) (ha2 : a ≤ 4000000000000000000) (hb2 : b ≤ 4000000000000000000) :
    Calls Try.prog 66 #[.int .i64 a, .int .i64 b] w fun e w' => e = .returned (.int .i64 (gcdI a b)) ∧ ∃ n, w' = w.drewN n := by
  obtain ⟨g, hg⟩ : ∃ g, g = gcdI a b := ⟨_, rfl⟩
  have HG := Lib.hid hg
  rw [← hg]
  clear hg
  go_enter Try.func66, Try.ntmps66
  go_wp2
  go_loopw [0, 1] (fun x y wr => ∃ (p q : Int) (n : Nat), -4000000000000000000 ≤ p ∧ -4000000000000000000 ≤ q ∧ p ≤ 4000000000000000000 ∧ q ≤ 4000000000000000000 ∧ x = .int .i64 p ∧ y = .int .i64 q ∧ Hid (g = gcdI p q) ∧ wr = w.drewN n) (fun _ y _ => (intOf y).natAbs)
  case atStart => exact ⟨a, b, 0, ha, hb, ha2, hb2, rfl, rfl, HG, rfl⟩
  case round =>
    obtain ⟨p, q, n, hp, hq, hp2, hq2, rfl, rfl, H, rfl⟩ := hrel
    by_cases hq0 : q = 0
    · subst hq0
      go_wp2
      · go_ret
        exact ⟨ret_i (by rw [H.out, gcdI_zero]; exact natAbs_neg' (by omega)), n, rfl⟩
      · go_ret
        exact ⟨ret_i (by rw [H.out, gcdI_zero]; exact natAbs_pos' (by omega)), n, rfl⟩
    · have e1 : (q == 0) = false := by simp [hq0]
      have e2 : (q != 0) = true := by simp [hq0]
      have hm : (p.tmod q).natAbs < q.natAbs := by rw [Int.natAbs_tmod]; exact Nat.mod_lt _ (by omega)
      go_wp2
      go_quiet (fail)
      go_wp2
      go_roundw
      case rel => exact ⟨q, p.tmod q, n + nq, hq, by omega, hq2, by omega, rfl, rfl, (by have := H.out; show _ = _; rw [this, gcdI_tmod]), by rw [World.drewN_drewN]⟩
      case measure => simp [intOf]; rw [Int.natAbs_tmod] at hm; exact hm

theorem absolute_any (n : Int) (w : World) (h1 : -4000000000000000000 ≤ n) (h2 : n ≤ 4000000000000000000) :
    Calls Try.prog 70 #[.int .i64 n] w fun e w' => e = .returned (.int .i64 (n.natAbs : Int)) ∧ w = w' := by
  by_cases h : n < 0
  · go_enter Try.func70, Try.ntmps70
    go_wp2
    go_ret
    exact ⟨ret_i (natAbs_neg' (by omega)), rfl⟩
  · go_enter Try.func70, Try.ntmps70
    go_wp2
    go_ret
    exact ⟨ret_i (natAbs_pos' (by omega)), rfl⟩

theorem l1In_any (n a b : Int) (w : World) : Calls Try.prog 56 #[.int .i64 n, .int .i64 a, .int .i64 b] w fun e w' => e = .returned (.bool (decide (a ≤ n ∧ n ≤ b))) ∧ w = w' := by
  by_cases h1 : a ≤ n
  · by_cases h2 : n ≤ b
    · go_enter Try.func56, Try.ntmps56
      go_wp2
      go_ret
      exact ⟨by simp [h1, h2], rfl⟩
    · have h2' : ¬ n ≤ b := h2
      go_enter Try.func56, Try.ntmps56
      go_wp2
      go_ret
      exact ⟨by simp; omega, rfl⟩
  · go_enter Try.func56, Try.ntmps56
    go_wp2
    go_ret
    exact ⟨by simp; omega, rfl⟩

theorem in_yes (n a b : Int) (w : World) (h : a ≤ n ∧ n ≤ b) : Calls Try.prog 51 #[.int .i64 n, .int .i64 a, .int .i64 b] w fun e w' => e = .returned (.bool true) ∧ w' = w :=
  (in_any n a b w).mono fun _ _ k => ⟨by rw [k.1, decide_eq_true h], k.2.symm⟩
theorem in_no (n a b : Int) (w : World) (h : ¬ (a ≤ n ∧ n ≤ b)) : Calls Try.prog 51 #[.int .i64 n, .int .i64 a, .int .i64 b] w fun e w' => e = .returned (.bool false) ∧ w' = w :=
  (in_any n a b w).mono fun _ _ k => ⟨by rw [k.1, decide_eq_false h], k.2.symm⟩

theorem l1In_yes (n a b : Int) (w : World) (h : a ≤ n ∧ n ≤ b) : Calls Try.prog 56 #[.int .i64 n, .int .i64 a, .int .i64 b] w fun e w' => e = .returned (.bool true) ∧ w' = w :=
  (l1In_any n a b w).mono fun _ _ k => ⟨by rw [k.1, decide_eq_true h], k.2.symm⟩
theorem l1In_no (n a b : Int) (w : World) (h : ¬ (a ≤ n ∧ n ≤ b)) : Calls Try.prog 56 #[.int .i64 n, .int .i64 a, .int .i64 b] w fun e w' => e = .returned (.bool false) ∧ w' = w :=
  (l1In_any n a b w).mono fun _ _ k => ⟨by rw [k.1, decide_eq_false h], k.2.symm⟩


/-! ### impl -/
theorem impl_isRatio_no1 (a b : Int) (w : World) (h : ¬ (1 ≤ b ∧ b ≤ 1000000000)) :
    Calls Try.prog 59 #[.agg #[.int .i64 a, .int .i64 b]] w fun e w' => e = .returned (.bool (isR a b)) ∧ Below w.heap.size w w' := by
  rw [isR_no1 h]
  go_enter Try.func59, Try.ntmps59
  go_wp2
  go_quiet ((first | (go_at_call 51; exact Calls.quiet_of_same (in_yes _ _ _ _ (by omega))) | (go_at_call 51; exact Calls.quiet_of_same (in_no _ _ _ _ (by omega)))))
  go_wp2
  go_ret
  exact ⟨rfl, below_drewN ((Below.refl _ _).alloc (Nat.le_refl _) _) _⟩
theorem impl_isRatio_no2 (a b : Int) (w : World) (h : 1 ≤ b ∧ b ≤ 1000000000) (h2 : ¬ (-1000000000 ≤ a ∧ a ≤ 1000000000)) :
    Calls Try.prog 59 #[.agg #[.int .i64 a, .int .i64 b]] w fun e w' => e = .returned (.bool (isR a b)) ∧ Below w.heap.size w w' := by
  rw [isR_no2 h2]
  go_enter Try.func59, Try.ntmps59
  go_wp2
  go_quiet ((first | (go_at_call 51; exact Calls.quiet_of_same (in_yes _ _ _ _ (by omega))) | (go_at_call 51; exact Calls.quiet_of_same (in_no _ _ _ _ (by omega)))))
  go_wp2
  go_ret
  exact ⟨rfl, below_drewN ((Below.refl _ _).alloc (Nat.le_refl _) _) _⟩
theorem impl_isRatio_yes (a b : Int) (w : World) (h : 1 ≤ b ∧ b ≤ 1000000000) (h2 : -1000000000 ≤ a ∧ a ≤ 1000000000) :
    Calls Try.prog 59 #[.agg #[.int .i64 a, .int .i64 b]] w fun e w' => e = .returned (.bool (isR a b)) ∧ Below w.heap.size w w' := by
  rw [isR_yes h h2]
  have e1 : ((a.natAbs : Nat) : Int) ≤ 1000000000 := by omega
  have e2 : gcdI ((a.natAbs : Nat) : Int) b = gcdI a b := gcdI_natAbs a b
  obtain ⟨b1, b2⟩ := h
  obtain ⟨a1, a2⟩ := h2
  go_enter Try.func59, Try.ntmps59
  go_wp2
  go_quiet ((first | (go_at_call 51; exact Calls.quiet_of_same (in_yes _ _ _ _ (by omega))) | (go_at_call 51; exact Calls.quiet_of_same (in_no _ _ _ _ (by omega))) | (go_at_call 70; exact Calls.quiet_of_same ((absolute_any _ _ (by omega) (by omega)).mono fun _ _ h => ⟨h.1, h.2.symm⟩)) | (go_at_call 69; exact Calls.quiet_of (divisor_any _ _ _ (by omega) (by omega) (by omega) (by omega)))))
  go_wp2
  go_ret
  exact ⟨rfl, below_drewN ((Below.refl _ _).alloc (Nat.le_refl _) _) _⟩
theorem impl_isRatio (a b : Int) (w : World) :
    Calls Try.prog 59 #[.agg #[.int .i64 a, .int .i64 b]] w fun e w' => e = .returned (.bool (isR a b)) ∧ Below w.heap.size w w' := by
  by_cases h : 1 ≤ b ∧ b ≤ 1000000000
  · by_cases h2 : -1000000000 ≤ a ∧ a ≤ 1000000000
    · exact impl_isRatio_yes a b w h h2
    · exact impl_isRatio_no2 a b w h h2
  · exact impl_isRatio_no1 a b w h

/-! ### spec -/
theorem spec_isRatio_no1 (a b : Int) (w : World) (h : ¬ (1 ≤ b ∧ b ≤ 1000000000)) :
    Calls Try.prog 48 #[.agg #[.int .i64 a, .int .i64 b]] w fun e w' => e = .returned (.bool (isR a b)) ∧ Below w.heap.size w w' := by
  rw [isR_no1 h]
  go_enter Try.func48, Try.ntmps48
  go_wp2_with (first | (go_at_call 56; refine (l1In_yes _ _ _ _ (by omega)).mono ?_; rintro e w' ⟨rfl, rfl⟩) | (go_at_call 56; refine (l1In_no _ _ _ _ (by omega)).mono ?_; rintro e w' ⟨rfl, rfl⟩))
  go_ret
  exact ⟨rfl, (Below.refl _ _).alloc (Nat.le_refl _) _⟩
theorem spec_isRatio_no2 (a b : Int) (w : World) (h : 1 ≤ b ∧ b ≤ 1000000000) (h2 : ¬ (-1000000000 ≤ a ∧ a ≤ 1000000000)) :
    Calls Try.prog 48 #[.agg #[.int .i64 a, .int .i64 b]] w fun e w' => e = .returned (.bool (isR a b)) ∧ Below w.heap.size w w' := by
  rw [isR_no2 h2]
  go_enter Try.func48, Try.ntmps48
  go_wp2_with (first | (go_at_call 56; refine (l1In_yes _ _ _ _ (by omega)).mono ?_; rintro e w' ⟨rfl, rfl⟩) | (go_at_call 56; refine (l1In_no _ _ _ _ (by omega)).mono ?_; rintro e w' ⟨rfl, rfl⟩))
  go_ret
  exact ⟨rfl, (Below.refl _ _).alloc (Nat.le_refl _) _⟩
theorem spec_isRatio_yes (a b : Int) (w : World) (h : 1 ≤ b ∧ b ≤ 1000000000) (h2 : -1000000000 ≤ a ∧ a ≤ 1000000000) :
    Calls Try.prog 48 #[.agg #[.int .i64 a, .int .i64 b]] w fun e w' => e = .returned (.bool (isR a b)) ∧ Below w.heap.size w w' := by
  rw [isR_yes h h2]
  have e1 : ((a.natAbs : Nat) : Int) ≤ 1000000000 := by omega
  have e2 : gcdI ((a.natAbs : Nat) : Int) b = gcdI a b := gcdI_natAbs a b
  obtain ⟨b1, b2⟩ := h
  obtain ⟨a1, a2⟩ := h2
  go_enter Try.func48, Try.ntmps48
  go_wp2_with (first | (go_at_call 56; refine (l1In_yes _ _ _ _ (by omega)).mono ?_; rintro e w' ⟨rfl, rfl⟩) | (go_at_call 56; refine (l1In_no _ _ _ _ (by omega)).mono ?_; rintro e w' ⟨rfl, rfl⟩) | (go_at_call 66; refine (l2Gcd_any _ _ _ (by omega) (by omega) (by omega) (by omega)).mono ?_; rintro e w' ⟨rfl, nq, rfl⟩))
  go_ret
  exact ⟨rfl, below_drewN ((Below.refl _ _).alloc (Nat.le_refl _) _) _⟩
theorem spec_isRatio (a b : Int) (w : World) :
    Calls Try.prog 48 #[.agg #[.int .i64 a, .int .i64 b]] w fun e w' => e = .returned (.bool (isR a b)) ∧ Below w.heap.size w w' := by
  by_cases h : 1 ≤ b ∧ b ≤ 1000000000
  · by_cases h2 : -1000000000 ≤ a ∧ a ≤ 1000000000
    · exact spec_isRatio_yes a b w h h2
    · exact spec_isRatio_no2 a b w h h2
  · exact spec_isRatio_no1 a b w h

end Go.Proofs.Ytccejhhhengpcaa
