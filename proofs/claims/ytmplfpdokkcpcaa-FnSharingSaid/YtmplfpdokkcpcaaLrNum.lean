/-
  Plain facts on the numbers of LargestRemainder.
-/
import Derived.Test.YtmplfpdokkcpcaaOwn
import Derived.Test.YtmplfpdokkcpcaaRest
import Derived.Test.YtmplfpdokkcpcaaApp
import Derived.Test.YtmplfpdokkcpcaaAbs
import Derived.BigQuiet
namespace Go.Proofs.Ytmplfpdokkcpcaa
open Go.RowKit cost num
set_option linter.unusedVariables false
set_option linter.unusedSimpArgs false
theorem bst_in (r : Nat → Int) {n : Nat} (hn : 0 < n) : ∀ k, k ≤ n → bst r k < n
  | 0, _ => hn
  | k + 1, h => by have := bst_lt r k; omega
section
variable {f : Nat → Int} {n : Nat} {t : Int} (h : awB f n = true) (ht : -1000000000 ≤ t ∧ t ≤ 1000000000)
theorem lr_tdiv (f : Nat → Int) (n : Nat) (t : Int) (i : Nat) : (t * f i).tdiv (sumTo f n) = sgn t * lrQuo f n t i := by
  unfold lrQuo
  rcases sgn_cases t with ⟨h1, h2⟩ | ⟨h1, h2⟩
  · have e : -1 * t * f i = -(t * f i) := by rw [Int.neg_one_mul, Int.neg_mul]
    rw [h2, e, Int.neg_tdiv, Int.neg_one_mul, Int.neg_neg]
  · rw [h2, Int.one_mul, Int.one_mul]
include h ht
theorem lr_tmod (i : Nat) (hi : i < n) : (((t * f i).tmod (sumTo f n)).natAbs : Int) = lrRest f n t i := by
  have h0 := (lr_div h ht i hi).2.1
  have e : lrRest f n t i = sgn t * (t * f i).tmod (sumTo f n) := by
    unfold lrRest
    rcases sgn_cases t with ⟨h1, h2⟩ | ⟨h1, h2⟩
    · have e : -1 * t * f i = -(t * f i) := by rw [Int.neg_one_mul, Int.neg_mul]
      rw [h2, e, Int.neg_tmod, Int.neg_one_mul]
    · rw [h2, Int.one_mul, Int.one_mul]
  rcases sgn_cases t with ⟨h1, h2⟩ | ⟨h1, h2⟩ <;> rw [h2] at e <;> omega
theorem lr_quo_sum (k : Nat) (hk : k ≤ n) : 0 ≤ sumTo (lrQuo f n t) k ∧ sumTo (lrQuo f n t) k ≤ 1000000000000000 * (k : Int) := by
  induction k with
  | zero => simp [sumTo]
  | succ k ih =>
    have h1 := ih (by omega)
    have h2 := (lr_div h ht k (by omega)).2.2.2
    simp only [sumTo] at h1 ⊢
    omega
theorem lr_sum_bounds (k : Nat) (hk : k ≤ n) : -1000000000000000000 ≤ sumTo (fun i => (t * f i).tdiv (sumTo f n)) k ∧ sumTo (fun i => (t * f i).tdiv (sumTo f n)) k ≤ 1000000000000000000 ∧ sumTo (fun i => (t * f i).tdiv (sumTo f n)) k = sgn t * sumTo (lrQuo f n t) k := by
  have h1 := lr_quo_sum h ht k hk
  have hn := aw_n h
  have e : sumTo (fun i => (t * f i).tdiv (sumTo f n)) k = sgn t * sumTo (lrQuo f n t) k := by
    rw [Int.mul_comm, ← sumTo_mul]
    exact sumTo_congr fun i _ => by rw [lr_tdiv, Int.mul_comm]
  rcases sgn_cases t with ⟨h3, h2⟩ | ⟨h3, h2⟩ <;> rw [h2] at e <;> rw [h2] <;> refine ⟨?_, ?_, e⟩ <;> omega
theorem lr_abs : ((t - sumTo (fun i => (t * f i).tdiv (sumTo f n)) n).natAbs : Int) = (lrLeft f n t : Int) := by
  obtain ⟨_, _, e⟩ := lr_sum_bounds h ht n (Nat.le_refl _)
  have h1 := (lr_left h ht).1
  rcases sgn_cases t with ⟨h3, h2⟩ | ⟨h3, h2⟩ <;> rw [h2] at e h1 <;> omega
theorem lr_one (i : Nat) (hi : i < n) : -1000000000000000 ≤ t * f i ∧ t * f i ≤ 1000000000000000 ∧ -1000000000000000 ≤ (t * f i).tdiv (sumTo f n) ∧ (t * f i).tdiv (sumTo f n) ≤ 1000000000000000 ∧ -1000000000000000 ≤ (t * f i).tmod (sumTo f n) ∧ (t * f i).tmod (sumTo f n) ≤ 1000000000000000 := by
  have h1 := lr_prod h ht i hi
  obtain ⟨_, h2, h3, h4, h5⟩ := lr_div h ht i hi
  have hS := lr_S h ht
  have h6 := lr_tmod h ht i hi
  have h7 := lr_tdiv f n t i
  rcases sgn_cases t with ⟨e1, e2⟩ | ⟨e1, e2⟩ <;> rw [e2] at h1 h7
  · rw [Int.neg_one_mul, Int.neg_mul] at h1
    omega
  · rw [Int.one_mul] at h1
    omega
theorem lr_step (j : Nat) (hj : j ≤ lrLeft f n t) (i : Nat) (hi : i < n) : -2000000000000000 ≤ (t * f i).tdiv (sumTo f n) + sgn t * cnt (lrRest f n t) n j i ∧ (t * f i).tdiv (sumTo f n) + sgn t * cnt (lrRest f n t) n j i ≤ 2000000000000000 := by
  have h1 := lr_one h ht i hi
  have h2 := cnt_bounds (lrRest f n t) n j i
  have h3 := (lr_left h ht).2
  have h4 := aw_n h
  rcases sgn_cases t with ⟨e1, e2⟩ | ⟨e1, e2⟩ <;> rw [e2] <;> omega
theorem lr_rst (j : Nat) (i : Nat) (hi : i < n) : -1 ≤ rst (lrRest f n t) n j i ∧ rst (lrRest f n t) n j i ≤ 40000000 :=
  rst_bounds (by omega) (fun i hi => by have := lr_div h ht i hi; have := lr_S h ht; omega) j i hi
theorem lr_bounds (i : Nat) (hi : i < n) : -2000000000000000 ≤ lr f n t i ∧ lr f n t i ≤ 2000000000000000 ∧ (t * f i).tdiv (sumTo f n) + sgn t * cnt (lrRest f n t) n (lrLeft f n t) i = lr f n t i := by
  have e : (t * f i).tdiv (sumTo f n) + sgn t * cnt (lrRest f n t) n (lrLeft f n t) i = lr f n t i := by rw [lr_tdiv]; unfold lr; rw [Int.mul_add]
  have := lr_step h ht _ (Nat.le_refl _) i hi
  omega
end
end Go.Proofs.Ytmplfpdokkcpcaa
