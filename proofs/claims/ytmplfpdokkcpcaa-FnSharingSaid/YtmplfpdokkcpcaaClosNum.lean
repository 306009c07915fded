/-
  Plain arithmetic for FnClosest and FnSharing.
-/
import Derived.Test.YtmplfpdokkcpcaaShr
namespace Go.Proofs.Ytmplfpdokkcpcaa
open cost num
set_option linter.unusedVariables false
set_option linter.unusedSectionVars false

theorem near {S a x : Int} (hS : 0 < S) (h1 : x - S < a * S) (h2 : a * S < x + S) : x / S ≤ a ∧ a ≤ -((-x) / S) := by
  have e1 : (a + 1) * S = a * S + S := by rw [Int.add_mul, Int.one_mul]
  have e2 : (-a + 1) * S = -(a * S) + S := by rw [Int.add_mul, Int.one_mul, Int.neg_mul]
  have k1 : x / S < a + 1 := (Int.ediv_lt_iff_lt_mul hS).2 (by omega)
  have k2 : (-x) / S < -a + 1 := (Int.ediv_lt_iff_lt_mul hS).2 (by omega)
  omega
theorem sh_zero (f : Nat → Int) (n : Nat) (t : Int) : sh f n t 0 = 0 := by unfold sh; simp [sumTo]
theorem sh_neg (f : Nat → Int) (n : Nat) (t : Int) (k : Nat) : sh f n (-t) k = -(sh f n t k) := by unfold sh; rw [Int.neg_mul, Int.neg_tdiv]
theorem app_neg (f : Nat → Int) (n : Nat) (t : Int) (k : Nat) : app f n (-t) k = -(app f n t k) := by unfold app; rw [sh_neg, sh_neg]; omega
theorem app_sum (f : Nat → Int) (n : Nat) (t : Int) : ∀ k, sumTo (app f n t) k = sh f n t k
  | 0 => (sh_zero f n t).symm
  | k + 1 => by
    have := app_sum f n t k
    simp only [sumTo] at this ⊢
    rw [this]; unfold app; omega
section
variable {f : Nat → Int} {n : Nat} {t : Int} (h : awB f n = true) (ht : -1000000000 ≤ t ∧ t ≤ 1000000000)
include h ht
theorem sh_all : sh f n t n = t := by
  have := aw_n h
  unfold sh
  exact Int.mul_tdiv_cancel t (by omega)
theorem sh_rem (k : Nat) (hk : k ≤ n) : ∃ r, sh f n t k * sumTo f n + r = t * sumTo f k ∧ (0 ≤ t → 0 ≤ r ∧ r < sumTo f n) ∧ (t ≤ 0 → -(sumTo f n) < r ∧ r ≤ 0) := by
  have hp := aw_n h
  have hs := aw_sums h k hk
  refine ⟨(t * sumTo f k).tmod (sumTo f n), ?_, ?_, ?_⟩
  · unfold sh
    have := Int.tmod_add_mul_tdiv (t * sumTo f k) (sumTo f n)
    rw [Int.mul_comm (sumTo f n)] at this
    omega
  · intro h0
    exact ⟨Int.tmod_nonneg _ (Int.mul_nonneg h0 hs.1), Int.tmod_lt_of_pos _ (by omega)⟩
  · intro h0
    have e : t * sumTo f k = -((-t) * sumTo f k) := by rw [Int.neg_mul, Int.neg_neg]
    rw [e, Int.neg_tmod]
    have h1 := Int.tmod_nonneg (sumTo f n) (Int.mul_nonneg (by omega : 0 ≤ -t) hs.1)
    have h2 := Int.tmod_lt_of_pos (-t * sumTo f k) (by omega : 0 < sumTo f n)
    omega
theorem app_near (i : Nat) (hi : i < n) : t * f i - sumTo f n < app f n t i * sumTo f n ∧ app f n t i * sumTo f n < t * f i + sumTo f n := by
  obtain ⟨r, h1, h2, h3⟩ := sh_rem h ht i (by omega)
  obtain ⟨r', h1', h2', h3'⟩ := sh_rem h ht (i + 1) (by omega)
  have hp := aw_n h
  have e : app f n t i * sumTo f n = sh f n t (i + 1) * sumTo f n - sh f n t i * sumTo f n := by unfold app; rw [Int.sub_mul]
  have e2 : t * sumTo f (i + 1) = t * sumTo f i + t * f i := by simp only [sumTo]; rw [Int.mul_add]
  by_cases h0 : 0 ≤ t
  · have a := h2 h0
    have b := h2' h0
    omega
  · have a := h3 (by omega)
    have b := h3' (by omega)
    omega
/-- one that was given one more has a remainder -/
theorem cnt_pos (i : Nat) (hi : i < n) : 0 ≤ cnt (lrRest f n t) n (lrLeft f n t) i ∧ cnt (lrRest f n t) n (lrLeft f n t) i ≤ 1 ∧ (cnt (lrRest f n t) n (lrLeft f n t) i = 1 → 0 < lrRest f n t i) := by
  have hS := lr_S h ht
  have hr : ∀ i, i < n → 0 ≤ lrRest f n t i ∧ lrRest f n t i ≤ sumTo f n - 1 := fun i hi => by have := lr_div h ht i hi; omega
  obtain ⟨hs, τ, h0, h1, hc⟩ := rounds (by omega) hr (lrLeft f n t) (Nat.le_of_lt (lr_left h ht).2)
  have hci := hc i hi
  refine ⟨by omega, by omega, fun h1' => ?_⟩
  apply Classical.byContradiction
  intro hno
  have hri := hr i hi
  have hall : ∀ j, j < n → lrRest f n t j ≤ cnt (lrRest f n t) n (lrLeft f n t) j * (sumTo f n - 1) := fun j hj => by
    have := hr j hj
    rcases hc j hj with h | h
    · rw [h.1]; omega
    · rw [h.1]; omega
  have hle := sumTo_le hall
  rw [sumTo_mul, hs] at hle
  have hsum := lr_sum h ht
  have hl := (lr_left h ht).1
  -- the one's own place counts
  have hpos : (1 : Int) ≤ lrLeft f n t := by
    apply Classical.byContradiction
    intro hz
    have e0 : lrLeft f n t = 0 := by omega
    rw [e0] at h1'
    simp [cnt] at h1'
  have e : (lrLeft f n t : Int) * sumTo f n = sgn t * t * sumTo f n - sumTo (lrQuo f n t) n * sumTo f n := by rw [← hl, Int.sub_mul]
  have e2 : (lrLeft f n t : Int) * (sumTo f n - 1) = lrLeft f n t * sumTo f n - lrLeft f n t := by rw [Int.mul_sub, Int.mul_one]
  omega
theorem lr_diff (i : Nat) (hi : i < n) : lr f n t i * sumTo f n - t * f i = sgn t * (cnt (lrRest f n t) n (lrLeft f n t) i * sumTo f n - lrRest f n t i) := by
  have hd := (lr_div h ht i hi).1
  have e : lr f n t i * sumTo f n = sgn t * (lrQuo f n t i * sumTo f n + cnt (lrRest f n t) n (lrLeft f n t) i * sumTo f n) := by unfold lr; rw [Int.mul_assoc, Int.add_mul]
  rcases sgn_cases t with ⟨h1, h2⟩ | ⟨h1, h2⟩
  · rw [h2] at e hd ⊢
    rw [Int.neg_one_mul, Int.neg_mul] at hd
    omega
  · rw [h2] at e hd ⊢
    rw [Int.one_mul] at hd
    omega
theorem lr_near (i : Nat) (hi : i < n) : t * f i - sumTo f n < lr f n t i * sumTo f n ∧ lr f n t i * sumTo f n < t * f i + sumTo f n := by
  have hd := lr_diff h ht i hi
  obtain ⟨c0, c1, c2⟩ := cnt_pos h ht i hi
  obtain ⟨_, r0, r1, _⟩ := lr_div h ht i hi
  have hc : cnt (lrRest f n t) n (lrLeft f n t) i * sumTo f n = if cnt (lrRest f n t) n (lrLeft f n t) i = 1 then sumTo f n else 0 := by
    split
    · rename_i e; rw [e, Int.one_mul]
    · have : cnt (lrRest f n t) n (lrLeft f n t) i = 0 := by omega
      rw [this, Int.zero_mul]
  rw [hc] at hd
  by_cases e : cnt (lrRest f n t) n (lrLeft f n t) i = 1
  · rw [if_pos e] at hd
    have := c2 e
    rcases sgn_cases t with ⟨h1, h2⟩ | ⟨h1, h2⟩ <;> rw [h2] at hd <;> omega
  · rw [if_neg e] at hd
    rcases sgn_cases t with ⟨h1, h2⟩ | ⟨h1, h2⟩ <;> rw [h2] at hd <;> omega
theorem lr_total : sumTo (lr f n t) n = t := by
  have hr : ∀ i, i < n → 0 ≤ lrRest f n t i ∧ lrRest f n t i ≤ sumTo f n := fun i hi => by have := lr_div h ht i hi; omega
  obtain ⟨hs, _⟩ := rounds (by have := lr_S h ht; omega) hr (lrLeft f n t) (Nat.le_of_lt (lr_left h ht).2)
  have hl := (lr_left h ht).1
  have e : sumTo (lr f n t) n = (sumTo (lrQuo f n t) n + sumTo (cnt (lrRest f n t) n (lrLeft f n t)) n) * sgn t := by
    rw [← sumTo_add, ← sumTo_mul]
    exact sumTo_congr fun i _ => by unfold lr; rw [Int.mul_comm]
  rw [e, hs]
  rcases sgn_cases t with ⟨h1, h2⟩ | ⟨h1, h2⟩ <;> rw [h2] at hl ⊢ <;> omega
theorem app_is : isSh f n t (app f n t) n = true := by
  have hS := lr_S h ht
  rw [isSh_yes h ht (fun i hi => (by have a := app_near h ht i hi; exact near (by omega) a.1 a.2))]
  rw [app_sum, sh_all h ht]
  simp
theorem lr_is : isSh f n t (lr f n t) n = true := by
  have hS := lr_S h ht
  rw [isSh_yes h ht (fun i hi => (by have a := lr_near h ht i hi; exact near (by omega) a.1 a.2))]
  rw [lr_total h ht]
  simp
/-- how far the shares lie from the exact ones -/
theorem far_le : sumTo (fun i => max (lr f n t i * sumTo f n - t * f i) (-(lr f n t i * sumTo f n - t * f i))) n ≤ sumTo (fun i => max (app f n t i * sumTo f n - t * f i) (-(app f n t i * sumTo f n - t * f i))) n := by
  have hS := lr_S h ht
  have hr : ∀ i, i < n → 0 ≤ lrRest f n t i ∧ lrRest f n t i ≤ sumTo f n := fun i hi => by have := lr_div h ht i hi; omega
  obtain ⟨hs, τ, h0, h1, hc⟩ := rounds (by omega) hr (lrLeft f n t) (Nat.le_of_lt (lr_left h ht).2)
  have key := closest n (sumTo f n) τ (lrRest f n t) (cnt (lrRest f n t) n (lrLeft f n t)) (fun i => sgn t * app f n t i - lrQuo f n t i) hr h0 h1
    (fun i hi => by rcases hc i hi with h | h <;> omega) (by
      rw [sumTo_sub, hs]
      have e : sumTo (fun i => sgn t * app f n t i) n = sgn t * t := by
        rw [sumTo_congr (g := fun i => app f n t i * sgn t) (fun i _ => Int.mul_comm _ _), sumTo_mul, app_sum, sh_all h ht, Int.mul_comm]
      rw [e]
      exact (lr_left h ht).1)
  refine Int.le_trans (Int.le_of_eq ?_) (Int.le_trans key (Int.le_of_eq ?_))
  · refine sumTo_congr fun i hi => ?_
    rw [lr_diff h ht i hi]
    unfold far
    rcases sgn_cases t with ⟨h1, h2⟩ | ⟨h1, h2⟩ <;> rw [h2] <;> omega
  · refine sumTo_congr fun i hi => ?_
    have hd := (lr_div h ht i hi).1
    unfold far
    have e : (sgn t * app f n t i - lrQuo f n t i) * sumTo f n = sgn t * (app f n t i * sumTo f n) - lrQuo f n t i * sumTo f n := by rw [Int.sub_mul, Int.mul_assoc]
    rw [e]
    rcases sgn_cases t with ⟨h1, h2⟩ | ⟨h1, h2⟩
    · rw [h2] at hd ⊢
      rw [Int.neg_one_mul, Int.neg_mul] at hd
      omega
    · rw [h2] at hd ⊢
      rw [Int.one_mul] at hd
      omega
end
end Go.Proofs.Ytmplfpdokkcpcaa
