/-
  Contracts of the sums of weights, of AreWeights and ShareUpTo, of the program and of the reference.
-/
import Derived.Test.YtmplfpdokkcpcaaInts
import Derived.Test.YtmplfpdokkcpcaaIn
import Derived.Test.YtmplfpdokkcpcaaCost
namespace Go.Proofs.Ytmplfpdokkcpcaa
open Go.RowKit cost
set_option linter.unusedVariables false
set_option linter.unusedSimpArgs false

/-- whether weights are weights -/
def awB (f : Nat → Int) (n : Nat) : Bool := decide ((∀ i, i < n → 0 ≤ f i ∧ f i ≤ 1000000) ∧ n ≤ 40 ∧ 0 < sumTo f n)
theorem awB_iff {f : Nat → Int} {n : Nat} : awB f n = true ↔ ((∀ i, i < n → 0 ≤ f i ∧ f i ≤ 1000000) ∧ n ≤ 40 ∧ 0 < sumTo f n) := by simp [awB]
theorem sum_bounds {f : Nat → Int} {n : Nat} (h : ∀ i, i < n → 0 ≤ f i ∧ f i ≤ 1000000) : ∀ k, k ≤ n → 0 ≤ sumTo f k ∧ sumTo f k ≤ 1000000 * (k : Int) := by
  intro k
  induction k with
  | zero => intro _; simp [sumTo]
  | succ k ih => intro hk; have h1 := ih (by omega); have h2 := h k (by omega); simp only [sumTo]; omega
theorem sum_mono {f : Nat → Int} {n : Nat} (h : ∀ i, i < n → 0 ≤ f i) : ∀ k, k ≤ n → sumTo f k ≤ sumTo f n := by
  induction n with
  | zero => intro k hk; obtain rfl : k = 0 := by omega
            exact Int.le_refl _
  | succ n ih =>
    intro k hk
    by_cases e : k = n + 1
    · subst e; exact Int.le_refl _
    · have h1 := ih (fun i hi => h i (by omega)) k (by omega); have h2 := h n (by omega); simp only [sumTo]; omega


theorem impl_sumOf (w : World) (A : Option Addr) (n cap : Nat) (f : Nat → Int) (h : IntsF w A n cap f) (hs : ∀ k, k ≤ n → -1000000000000000000 ≤ sumTo f k ∧ sumTo f k ≤ 1000000000000000000) :
    Calls Try.prog 31 #[.slice A n cap] w fun e w' => e = .returned (.int .i64 (sumTo f n)) ∧ w' = w := by
  have hn : n ≤ 9223372036854775807 := by have := h.max; have := h.le; omega
  have H := Lib.hid h
  have HS := Lib.hid hs
  clear h hs
  go_enter Try.func31, Try.ntmps31
  go_wp2_with fail
  go_loop [3, 8] (fun x i => ∃ k : Nat, k ≤ n ∧ i = .int .i64 (k : Int) ∧ x = .int .i64 (sumTo f k)) (fun _ i => n - (intOf i).toNat)
  case atStart => exact ⟨0, Nat.zero_le _, rfl, rfl⟩
  case round =>
    obtain ⟨k, hk, rfl, rfl⟩ := hrel
    by_cases hlt : k < n
    · have hlt' : (k : Int) < (n : Int) := by omega
      obtain ⟨b, o, rfl, hB, hc, hf0, hf1⟩ := H.out.cell k hlt
      obtain ⟨s0, s1⟩ := HS.out k (by omega)
      obtain ⟨s2, s3⟩ := HS.out (k + 1) (by omega)
      simp only [sumTo] at s2 s3
      go_wp2_with fail
      go_round
      case rel => exact ⟨k + 1, by omega, by go_num, by simp only [sumTo]⟩
      case measure => simp [intOf]; omega
    · obtain rfl : k = n := by omega
      go_wp2_with fail
      go_ret
      exact ⟨rfl, rfl⟩

theorem spec_l1Sum (w : World) (A : Option Addr) (n cap : Nat) (f : Nat → Int) (h : IntsF w A n cap f) (hs : ∀ k, k ≤ n → -1000000000000000000 ≤ sumTo f k ∧ sumTo f k ≤ 1000000000000000000) :
    Calls Try.prog 29 #[.slice A n cap] w fun e w' => e = .returned (.int .i64 (sumTo f n)) ∧ w' = w := by
  have hn : n ≤ 9223372036854775807 := by have := h.max; have := h.le; omega
  have H := Lib.hid h
  have HS := Lib.hid hs
  clear h hs
  go_enter Try.func29, Try.ntmps29
  go_wp2_with fail
  go_loop [3, 4] (fun x i => ∃ k : Nat, k ≤ n ∧ i = .int .i64 (k : Int) ∧ x = .int .i64 (sumTo f k)) (fun _ i => n - (intOf i).toNat)
  case atStart => exact ⟨0, Nat.zero_le _, rfl, rfl⟩
  case round =>
    obtain ⟨k, hk, rfl, rfl⟩ := hrel
    by_cases hlt : k < n
    · have hlt' : (k : Int) < (n : Int) := by omega
      obtain ⟨b, o, rfl, hB, hc, hf0, hf1⟩ := H.out.cell k hlt
      obtain ⟨s0, s1⟩ := HS.out k (by omega)
      obtain ⟨s2, s3⟩ := HS.out (k + 1) (by omega)
      simp only [sumTo] at s2 s3
      go_wp2_with fail
      go_round
      case rel => exact ⟨k + 1, by omega, by go_num, by simp only [sumTo]⟩
      case measure => simp [intOf]; omega
    · obtain rfl : k = n := by omega
      go_wp2_with fail
      go_ret
      exact ⟨rfl, rfl⟩

theorem impl_areWeights (w : World) (A : Option Addr) (n cap : Nat) (f : Nat → Int) (h : IntsF w A n cap f) :
    Calls Try.prog 12 #[.slice A n cap] w fun e w' => e = .returned (.bool (awB f n)) ∧ w' = w := by
  have hn : n ≤ 9223372036854775807 := by have := h.max; have := h.le; omega
  obtain ⟨q, hq⟩ : ∃ q, q = awB f n := ⟨_, rfl⟩
  have HQ := Lib.hid hq
  rw [← hq]
  clear hq
  have H := Lib.hid h
  clear h
  go_enter Try.func12, Try.ntmps12
  go_wp2_with fail
  go_loop [4, 7] (fun v i => ∃ k : Nat, k ≤ n ∧ i = .int .i64 (k : Int) ∧ Hid (∀ j, j < k → 0 ≤ f j ∧ f j ≤ 1000000)) (fun _ i => n - (intOf i).toNat)
  case atStart => exact ⟨0, Nat.zero_le _, rfl, fun j hj => absurd hj (by omega)⟩
  case round =>
    obtain ⟨k, hk, rfl, HK⟩ := hrel
    by_cases hlt : k < n
    · have hlt' : (k : Int) < (n : Int) := by omega
      obtain ⟨b, o, rfl, hB, hc, hf0, hf1⟩ := H.out.cell k hlt
      by_cases hgood : 0 ≤ f k ∧ f k ≤ 1000000
      · go_wp2_with (go_at_call 30; refine (in_yes _ _ _ _ (by omega)).mono ?_; rintro e w' ⟨rfl, rfl⟩)
        go_round
        case rel => exact ⟨k + 1, by omega, by go_num, fun j hj => (by by_cases e : j = k; exact e ▸ hgood; exact HK.out j (by omega))⟩
        case measure => simp [intOf]; omega
      · have hq2 : q = false := by
          rw [HQ.out, Bool.eq_false_iff]; intro hb; rw [awB_iff] at hb; exact hgood (hb.1 k hlt)
        clear HQ
        subst hq2
        go_wp2_with (go_at_call 30; refine (in_no _ _ _ _ (by omega)).mono ?_; rintro e w' ⟨rfl, rfl⟩)
        go_ret
        exact ⟨rfl, rfl⟩
    · obtain rfl : k = n := by omega
      by_cases h40 : k ≤ 40
      · have h40' : (k : Int) ≤ 40 := by omega
        have hsb := sum_bounds HK.out
        have hs0 := hsb k (Nat.le_refl _)
        have hs : ∀ j, j ≤ k → -1000000000000000000 ≤ sumTo f j ∧ sumTo f j ≤ 1000000000000000000 := fun j hj => by have := hsb j hj; omega
        have hqe : q = decide (0 < sumTo f k) := by
          rw [HQ.out, Bool.eq_iff_iff, awB_iff, decide_eq_true_eq]; exact ⟨fun h => h.2.2, fun h => ⟨HK.out, h40, h⟩⟩
        clear HQ hsb
        have HS := Lib.hid hs
        clear hs
        by_cases hp : 0 < sumTo f k
        · have hq2 : q = true := by rw [hqe]; simp [hp]
          clear hqe
          subst hq2
          go_wp2_with (go_at_call 31; refine (impl_sumOf _ _ _ _ _ H.out HS.out).mono ?_; rintro e w' ⟨rfl, rfl⟩)
          go_ret
          exact ⟨rfl, rfl⟩
        · have hq2 : q = false := by rw [hqe]; simp [hp]
          clear hqe
          subst hq2
          have HP := Lib.hid hp
          clear hp
          go_wp2_with (go_at_call 31; refine (impl_sumOf _ _ _ _ _ H.out HS.out).mono ?_; rintro e w' ⟨rfl, rfl⟩)
          go_ret
          exact ⟨ret_b (decide_eq_false (by have := HP.out; omega)), rfl⟩
      · have h40' : ¬ (k : Int) ≤ 40 := by omega
        have hq2 : q = false := by
          rw [HQ.out, Bool.eq_false_iff]; intro hb; rw [awB_iff] at hb; exact h40 hb.2.1
        clear HQ
        subst hq2
        go_wp2_with fail
        go_ret
        exact ⟨rfl, rfl⟩

theorem spec_areWeights (w : World) (A : Option Addr) (n cap : Nat) (f : Nat → Int) (h : IntsF w A n cap f) :
    Calls Try.prog 10 #[.slice A n cap] w fun e w' => e = .returned (.bool (awB f n)) ∧ w' = w := by
  have hn : n ≤ 9223372036854775807 := by have := h.max; have := h.le; omega
  obtain ⟨q, hq⟩ : ∃ q, q = awB f n := ⟨_, rfl⟩
  have HQ := Lib.hid hq
  rw [← hq]
  clear hq
  have H := Lib.hid h
  clear h
  go_enter Try.func10, Try.ntmps10
  go_wp2_with fail
  go_loop [3] (fun i => ∃ k : Nat, k ≤ n ∧ i = .int .i64 (k : Int) ∧ Hid (∀ j, j < k → 0 ≤ f j ∧ f j ≤ 1000000)) (fun i => n - (intOf i).toNat)
  case atStart => exact ⟨0, Nat.zero_le _, rfl, fun j hj => absurd hj (by omega)⟩
  case round =>
    obtain ⟨k, hk, rfl, HK⟩ := hrel
    by_cases hlt : k < n
    · have hlt' : (k : Int) < (n : Int) := by omega
      obtain ⟨b, o, rfl, hB, hc, hf0, hf1⟩ := H.out.cell k hlt
      by_cases hgood : 0 ≤ f k ∧ f k ≤ 1000000
      · go_wp2_with (go_at_call 28; refine (l1In_yes _ _ _ _ (by omega)).mono ?_; rintro e w' ⟨rfl, rfl⟩)
        go_round
        case rel => exact ⟨k + 1, by omega, by go_num, fun j hj => (by by_cases e : j = k; exact e ▸ hgood; exact HK.out j (by omega))⟩
        case measure => simp [intOf]; omega
      · have hq2 : q = false := by
          rw [HQ.out, Bool.eq_false_iff]; intro hb; rw [awB_iff] at hb; exact hgood (hb.1 k hlt)
        clear HQ
        subst hq2
        go_wp2_with (go_at_call 28; refine (l1In_no _ _ _ _ (by omega)).mono ?_; rintro e w' ⟨rfl, rfl⟩)
        go_ret
        exact ⟨rfl, rfl⟩
    · obtain rfl : k = n := by omega
      by_cases h40 : k ≤ 40
      · have h40' : (k : Int) ≤ 40 := by omega
        have hsb := sum_bounds HK.out
        have hs0 := hsb k (Nat.le_refl _)
        have hs : ∀ j, j ≤ k → -1000000000000000000 ≤ sumTo f j ∧ sumTo f j ≤ 1000000000000000000 := fun j hj => by have := hsb j hj; omega
        have hqe : q = decide (0 < sumTo f k) := by
          rw [HQ.out, Bool.eq_iff_iff, awB_iff, decide_eq_true_eq]; exact ⟨fun h => h.2.2, fun h => ⟨HK.out, h40, h⟩⟩
        clear HQ hsb
        have HS := Lib.hid hs
        clear hs
        by_cases hp : 0 < sumTo f k
        · have hq2 : q = true := by rw [hqe]; simp [hp]
          clear hqe
          subst hq2
          go_wp2_with (go_at_call 29; refine (spec_l1Sum _ _ _ _ _ H.out HS.out).mono ?_; rintro e w' ⟨rfl, rfl⟩)
          go_ret
          exact ⟨rfl, rfl⟩
        · have hq2 : q = false := by rw [hqe]; simp [hp]
          clear hqe
          subst hq2
          have HP := Lib.hid hp
          clear hp
          go_wp2_with (go_at_call 29; refine (spec_l1Sum _ _ _ _ _ H.out HS.out).mono ?_; rintro e w' ⟨rfl, rfl⟩)
          go_ret
          exact ⟨ret_b (decide_eq_false (by have := HP.out; omega)), rfl⟩
      · have h40' : ¬ (k : Int) ≤ 40 := by omega
        have hq2 : q = false := by
          rw [HQ.out, Bool.eq_false_iff]; intro hb; rw [awB_iff] at hb; exact h40 hb.2.1
        clear HQ
        subst hq2
        go_wp2_with fail
        go_ret
        exact ⟨rfl, rfl⟩

end Go.Proofs.Ytmplfpdokkcpcaa
