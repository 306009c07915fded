/-
  Plain mathematics of sharing by largest remainders (no program in sight): among all whole shares with one sum, those by largest remainders are the closest.
-/
import Derived.KernelRfl
namespace Go.Proofs.Ytkbmlpnfdogioaa.cost

/-- the sum of f 0, .., f (n-1) -/
def sumTo (f : Nat → Int) : Nat → Int
  | 0 => 0
  | n + 1 => sumTo f n + f n

theorem sumTo_congr {f g : Nat → Int} {n : Nat} (h : ∀ i, i < n → f i = g i) : sumTo f n = sumTo g n := by
  induction n with
  | zero => rfl
  | succ n ih => simp only [sumTo]; rw [ih (fun i hi => h i (by omega)), h n (by omega)]
theorem sumTo_add (f g : Nat → Int) (n : Nat) : sumTo (fun i => f i + g i) n = sumTo f n + sumTo g n := by
  induction n with
  | zero => rfl
  | succ n ih => simp only [sumTo, ih]; omega
theorem sumTo_sub (f g : Nat → Int) (n : Nat) : sumTo (fun i => f i - g i) n = sumTo f n - sumTo g n := by
  induction n with
  | zero => rfl
  | succ n ih => simp only [sumTo, ih]; omega
theorem sumTo_mul (f : Nat → Int) (k : Int) (n : Nat) : sumTo (fun i => f i * k) n = sumTo f n * k := by
  induction n with
  | zero => simp [sumTo]
  | succ n ih => simp only [sumTo, ih, Int.add_mul]
theorem sumTo_le {f g : Nat → Int} {n : Nat} (h : ∀ i, i < n → f i ≤ g i) : sumTo f n ≤ sumTo g n := by
  induction n with
  | zero => simp [sumTo]
  | succ n ih => simp only [sumTo]; have := ih (fun i hi => h i (by omega)); have := h n (by omega); omega
theorem sumTo_set (f : Nat → Int) (b : Nat) (x : Int) (n : Nat) : sumTo (fun i => if i = b then x else f i) n = sumTo f n + if b < n then x - f b else 0 := by
  induction n with
  | zero => simp [sumTo]
  | succ n ih =>
    simp only [sumTo, ih]
    by_cases h : n = b
    · subst h; rw [if_neg (by omega), if_pos rfl, if_pos (by omega)]; omega
    · rw [if_neg h]
      by_cases h2 : b < n
      · rw [if_pos h2, if_pos (by omega)]; omega
      · rw [if_neg h2, if_neg (by omega)]; omega
theorem sumTo_nonneg {f : Nat → Int} {n : Nat} (h : ∀ i, i < n → 0 ≤ f i) : 0 ≤ sumTo f n := by
  induction n with
  | zero => simp [sumTo]
  | succ n ih => simp only [sumTo]; have := ih (fun i hi => h i (by omega)); have := h n (by omega); omega

/-- how far d * S is from r -/
def far (d S r : Int) : Int := max (d * S - r) (-(d * S - r))

theorem one (S r t c d : Int) (hr0 : 0 ≤ r) (hrS : r ≤ S) (ht0 : 0 ≤ t) (htS : t ≤ S) (hc : (c = 0 ∧ r ≤ t) ∨ (c = 1 ∧ t ≤ r)) :
    (d - c) * (S - 2 * t) ≤ far d S r - far c S r := by
  unfold far
  have e : (d - c) * (S - 2 * t) = (d - c) * S - 2 * ((d - c) * t) := by
    rw [Int.mul_sub, Int.mul_left_comm]
  have eS : (d - c) * S = d * S - c * S := Int.sub_mul _ _ _
  rw [e]
  rcases hc with ⟨rfl, h⟩ | ⟨rfl, h⟩
  · simp only [Int.sub_zero, Int.zero_mul, Int.zero_sub] at *
    rcases Int.le_total 0 d with hd | hd
    · rcases Int.le_iff_lt_or_eq.1 hd with hd | hd
      · have h1 : 1 * t ≤ d * t := Int.mul_le_mul_of_nonneg_right (by omega) ht0
        have h2 : 1 * S ≤ d * S := Int.mul_le_mul_of_nonneg_right (by omega) (by omega)
        omega
      · subst hd; simp
    · have h1 : d * S ≤ d * t := Int.mul_le_mul_of_nonpos_left (by omega) htS
      have h2 : d * S ≤ 0 := Int.mul_nonpos_of_nonpos_of_nonneg (by omega) (by omega)
      omega
  · simp only [Int.one_mul] at *
    rcases Int.le_total 1 d with hd | hd
    · have h1 : 0 ≤ (d - 1) * t := Int.mul_nonneg (by omega) ht0
      have h2 : 0 ≤ (d - 1) * S := Int.mul_nonneg (by omega) (by omega)
      omega
    · have h3 : (d - 1) * S ≤ (d - 1) * t := Int.mul_le_mul_of_nonpos_left (by omega) htS
      rcases Int.le_iff_lt_or_eq.1 hd with hd' | hd'
      · -- d - 1 ≤ -1
        have h4 : (d - 1) * (S - t) ≤ (-1) * (S - t) := Int.mul_le_mul_of_nonneg_right (by omega) (by omega)
        have h5 : (d - 1) * (S - t) = (d - 1) * S - (d - 1) * t := Int.mul_sub _ _ _
        have h6 : (d - 1) * S ≤ (-1) * S := Int.mul_le_mul_of_nonneg_right (by omega) (by omega)
        omega
      · subst hd'; simp

/-- shares by a threshold are the closest of all with the same sum -/
theorem closest (n : Nat) (S t : Int) (r c d : Nat → Int) (hr : ∀ i, i < n → 0 ≤ r i ∧ r i ≤ S) (ht0 : 0 ≤ t) (htS : t ≤ S)
    (hc : ∀ i, i < n → (c i = 0 ∧ r i ≤ t) ∨ (c i = 1 ∧ t ≤ r i)) (hs : sumTo d n = sumTo c n) :
    sumTo (fun i => far (c i) S (r i)) n ≤ sumTo (fun i => far (d i) S (r i)) n := by
  have h1 : sumTo (fun i => (d i - c i) * (S - 2 * t)) n ≤ sumTo (fun i => far (d i) S (r i) - far (c i) S (r i)) n :=
    sumTo_le fun i hi => one S (r i) t (c i) (d i) (hr i hi).1 (hr i hi).2 ht0 htS (hc i hi)
  rw [sumTo_mul (fun i => d i - c i), sumTo_sub, sumTo_sub, hs, Int.sub_self, Int.zero_mul] at h1
  omega
end Go.Proofs.Ytkbmlpnfdogioaa.cost
