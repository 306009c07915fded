/-
  Plain arithmetic of sharing by largest remainders: no program in sight.
-/
import Derived.Test.YtmplfpdokkcpcaaShare
namespace Go.Proofs.Ytmplfpdokkcpcaa
open cost num
set_option linter.unusedVariables false
set_option linter.unusedSectionVars false

/-- the first place of the largest among the first k -/
def bst (r : Nat → Int) : Nat → Nat
  | 0 => 0
  | k + 1 => if r (bst r k) < r k then k else bst r k
theorem bst_lt (r : Nat → Int) : ∀ k, bst r (k + 1) < k + 1
  | 0 => by simp [bst]
  | k + 1 => by
    have := bst_lt r k
    unfold bst
    split <;> omega
theorem bst_max (r : Nat → Int) : ∀ k i, i < k → r i ≤ r (bst r k)
  | 0, i, h => by omega
  | k + 1, i, h => by
    have ih := bst_max r k
    unfold bst
    by_cases e : i = k
    · subst e; split <;> omega
    · have := ih i (by omega)
      split <;> omega
/-- what is left to be looked at, and who was given one, after j rounds -/
def rst (r : Nat → Int) (n : Nat) : Nat → Nat → Int
  | 0 => r
  | j + 1 => fun i => if i = bst (rst r n j) n then -1 else rst r n j i
def cnt (r : Nat → Int) (n : Nat) : Nat → Nat → Int
  | 0 => fun _ => 0
  | j + 1 => fun i => if i = bst (rst r n j) n then cnt r n j i + 1 else cnt r n j i
theorem cnt_bounds (r : Nat → Int) (n : Nat) : ∀ j i, 0 ≤ cnt r n j i ∧ cnt r n j i ≤ j
  | 0, i => by simp [cnt]
  | j + 1, i => by
    have := cnt_bounds r n j i
    unfold cnt
    split <;> omega
theorem rst_bounds {r : Nat → Int} {n : Nat} {M : Int} (hM : -1 ≤ M) (h : ∀ i, i < n → -1 ≤ r i ∧ r i ≤ M) : ∀ j i, i < n → -1 ≤ rst r n j i ∧ rst r n j i ≤ M
  | 0, i, hi => h i hi
  | j + 1, i, hi => by
    have := rst_bounds hM h j i hi
    unfold rst
    split <;> omega
theorem sumTo_bump (f : Nat → Int) (b : Nat) : ∀ n, sumTo (fun i => if i = b then f i + 1 else f i) n = sumTo f n + if b < n then 1 else 0
  | 0 => by simp [sumTo]
  | n + 1 => by
    have ih := sumTo_bump f b n
    simp only [sumTo] at ih ⊢
    rw [ih]
    by_cases h1 : n = b
    · subst h1; simp; omega
    · rw [if_neg h1]
      by_cases h2 : b < n
      · rw [if_pos h2, if_pos (by omega)]; omega
      · rw [if_neg h2, if_neg (by omega)]; omega
theorem sum_all_one {f : Nat → Int} {n : Nat} (h : ∀ i, i < n → f i = 1) : sumTo f n = n := by
  have : sumTo f n = sumTo (fun _ => 1) n := sumTo_congr h
  rw [this]
  clear this h
  induction n with
  | zero => rfl
  | succ n ih => simp only [sumTo] at ih ⊢; rw [ih]; omega
theorem rounds {r : Nat → Int} {n : Nat} {S : Int} (hS : 0 ≤ S) (hr : ∀ i, i < n → 0 ≤ r i ∧ r i ≤ S) : ∀ j : Nat, j ≤ n →
    sumTo (cnt r n j) n = j ∧ ∃ t, 0 ≤ t ∧ t ≤ S ∧ ∀ i, i < n → (cnt r n j i = 0 ∧ rst r n j i = r i ∧ r i ≤ t) ∨ (cnt r n j i = 1 ∧ rst r n j i = -1 ∧ t ≤ r i)
  | 0, _ => by
    refine ⟨?_, S, hS, Int.le_refl _, fun i hi => .inl ⟨rfl, rfl, (hr i hi).2⟩⟩
    have : ∀ k, sumTo (cnt r n 0) k = 0 := by
      intro k
      induction k with
      | zero => rfl
      | succ k ih => simp only [sumTo] at ih ⊢; rw [ih]; rfl
    exact this n
  | j + 1, hj => by
    obtain ⟨hs, t, ht0, htS, hc⟩ := rounds hS hr j (by omega)
    have hb : bst (rst r n j) n < n := by
      match n, hj with
      | n + 1, _ => exact bst_lt _ n
    -- there is one that was given nothing
    obtain ⟨u, hu, hcu⟩ : ∃ u, u < n ∧ cnt r n j u = 0 := by
      apply Classical.byContradiction
      intro hno
      have h1 : ∀ i, i < n → cnt r n j i = 1 := fun i hi => by
        rcases hc i hi with h | h
        · exact absurd ⟨i, hi, h.1⟩ hno
        · exact h.1
      rw [sum_all_one h1] at hs
      omega
    have hm := bst_max (rst r n j) n
    generalize hbb : bst (rst r n j) n = b at *
    have hub := hm u hu
    have hru : rst r n j u = r u := by rcases hc u hu with h | h <;> omega
    have hr0 := (hr u hu).1
    have hbc : cnt r n j b = 0 ∧ rst r n j b = r b ∧ r b ≤ t := by
      rcases hc b hb with h | h
      · exact h
      · omega
    refine ⟨?_, r b, (hr b hb).1, (hr b hb).2, fun i hi => ?_⟩
    · have e : cnt r n (j + 1) = fun i => if i = b then cnt r n j i + 1 else cnt r n j i := by
        funext i; show (if i = bst (rst r n j) n then _ else _) = _; rw [hbb]
      rw [e, sumTo_bump, hs, if_pos hb]; omega
    · have e1 : cnt r n (j + 1) i = if i = b then cnt r n j i + 1 else cnt r n j i := by show (if i = bst (rst r n j) n then _ else _) = _; rw [hbb]
      have e2 : rst r n (j + 1) i = if i = b then -1 else rst r n j i := by show (if i = bst (rst r n j) n then _ else _) = _; rw [hbb]
      rw [e1, e2]
      by_cases hib : i = b
      · subst hib
        rw [if_pos rfl, if_pos rfl]
        right
        omega
      · rw [if_neg hib, if_neg hib]
        rcases hc i hi with h | h
        · have := hm i hi
          left; omega
        · right; omega

def sgn (t : Int) : Int := if t < 0 then -1 else 1
theorem sgn_cases (t : Int) : (t < 0 ∧ sgn t = -1) ∨ (0 ≤ t ∧ sgn t = 1) := by
  unfold sgn
  split
  · exact .inl ⟨by omega, rfl⟩
  · exact .inr ⟨by omega, rfl⟩
/-- the absolute share rounded down, and its remainder -/
def lrQuo (f : Nat → Int) (n : Nat) (t : Int) (i : Nat) : Int := (sgn t * t * f i).tdiv (sumTo f n)
def lrRest (f : Nat → Int) (n : Nat) (t : Int) (i : Nat) : Int := (sgn t * t * f i).tmod (sumTo f n)
def lrLeft (f : Nat → Int) (n : Nat) (t : Int) : Nat := (sgn t * t - sumTo (lrQuo f n t) n).toNat
def lr (f : Nat → Int) (n : Nat) (t : Int) (i : Nat) : Int := sgn t * (lrQuo f n t i + cnt (lrRest f n t) n (lrLeft f n t) i)
section
variable {f : Nat → Int} {n : Nat} {t : Int} (h : awB f n = true) (ht : -1000000000 ≤ t ∧ t ≤ 1000000000)
include h ht
theorem lr_f (i : Nat) (hi : i < n) : 0 ≤ f i ∧ f i ≤ 1000000 := (awB_iff.1 h).1 i hi
theorem lr_T : 0 ≤ sgn t * t ∧ sgn t * t ≤ 1000000000 := by
  rcases sgn_cases t with ⟨h1, h2⟩ | ⟨h1, h2⟩ <;> rw [h2] <;> omega
theorem lr_prod (i : Nat) (hi : i < n) : 0 ≤ sgn t * t * f i ∧ sgn t * t * f i ≤ 1000000000000000 := by
  have h1 := lr_f h ht i hi
  have h2 := lr_T h ht
  refine ⟨Int.mul_nonneg h2.1 h1.1, ?_⟩
  have := Int.mul_le_mul h2.2 h1.2 h1.1 (by omega : (0 : Int) ≤ 1000000000)
  omega
theorem lr_S : 1 ≤ sumTo f n ∧ sumTo f n ≤ 40000000 := by
  have h1 := aw_n h
  have h2 := aw_sums h n (Nat.le_refl _)
  omega
theorem lr_div (i : Nat) (hi : i < n) : lrQuo f n t i * sumTo f n + lrRest f n t i = sgn t * t * f i ∧ 0 ≤ lrRest f n t i ∧ lrRest f n t i < sumTo f n ∧ 0 ≤ lrQuo f n t i ∧ lrQuo f n t i ≤ 1000000000000000 := by
  have h1 := lr_prod h ht i hi
  have h2 := lr_S h ht
  unfold lrQuo lrRest
  rw [Int.tdiv_eq_ediv_of_nonneg h1.1, Int.tmod_eq_emod_of_nonneg h1.1]
  have h3 := Int.emod_add_mul_ediv (sgn t * t * f i) (sumTo f n)
  have h4 := Int.emod_nonneg (sgn t * t * f i) (by omega : sumTo f n ≠ 0)
  have h5 := Int.emod_lt_of_pos (sgn t * t * f i) (by omega : 0 < sumTo f n)
  have h6 := Int.ediv_nonneg h1.1 (by omega : 0 ≤ sumTo f n)
  have h7 := Int.ediv_le_self (sumTo f n) h1.1
  rw [Int.mul_comm (sumTo f n) (sgn t * t * f i / sumTo f n)] at h3
  refine ⟨by omega, h4, h5, h6, by omega⟩
theorem lr_sum : sumTo (lrQuo f n t) n * sumTo f n + sumTo (lrRest f n t) n = sgn t * t * sumTo f n := by
  have e1 : sumTo (fun i => lrQuo f n t i * sumTo f n + lrRest f n t i) n = sumTo (fun i => f i * (sgn t * t)) n := sumTo_congr fun i hi => by rw [(lr_div h ht i hi).1, Int.mul_comm]
  rw [sumTo_add, sumTo_mul, sumTo_mul] at e1
  rw [e1, Int.mul_comm]
theorem lr_left : sgn t * t - sumTo (lrQuo f n t) n = (lrLeft f n t : Int) ∧ lrLeft f n t < n := by
  unfold lrLeft
  have hs := lr_sum h ht
  have hS := lr_S h ht
  have hn := aw_n h
  have h0 : 0 ≤ sumTo (lrRest f n t) n := sumTo_nonneg fun i hi => (lr_div h ht i hi).2.1
  have h1 : sumTo (lrRest f n t) n ≤ (sumTo f n - 1) * n := by
    have := sumTo_le (f := lrRest f n t) (g := fun _ => 1 * (sumTo f n - 1)) (n := n) fun i hi => by have := (lr_div h ht i hi).2.2.1; omega
    rw [sumTo_mul (fun _ => 1), sum_all_one (fun _ _ => rfl), Int.mul_comm] at this
    exact this
  generalize sumTo (lrQuo f n t) n = Q at *
  generalize sumTo (lrRest f n t) n = R at *
  generalize sumTo f n = S at *
  generalize sgn t * t = T at *
  have e : (T - Q) * S = R := by rw [Int.sub_mul]; omega
  have p0 : 0 ≤ T - Q := by
    apply Classical.byContradiction
    intro hneg
    have : (T - Q) * S ≤ (-1) * S := Int.mul_le_mul_of_nonneg_right (by omega) (by omega)
    omega
  have p1 : T - Q < n := by
    apply Classical.byContradiction
    intro hge
    have h2 : (n : Int) * S ≤ (T - Q) * S := Int.mul_le_mul_of_nonneg_right (by omega) (by omega)
    have h3 : (S - 1) * (n : Int) = n * S - n := by rw [Int.sub_mul, Int.one_mul, Int.mul_comm]
    omega
  omega
end
end Go.Proofs.Ytmplfpdokkcpcaa
