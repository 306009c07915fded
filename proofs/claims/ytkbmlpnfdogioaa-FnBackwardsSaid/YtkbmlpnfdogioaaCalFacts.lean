/-
  Plain facts about calendars: what the days between, the day of work and the finish day have to do with one another.
-/
import Derived.Test.YtkbmlpnfdogioaaCalNum
namespace Go.Proofs.Ytkbmlpnfdogioaa
open cost
set_option linter.unusedVariables false

/-- the sum before day x -/
def upto (g : Nat → Int) (x : Int) : Int := sumTo g (min 1000 x.toNat)
theorem sum_btw (g : Nat → Int) (a b : Int) (hab : a ≤ b) : ∀ k, sumTo (btw g a b) k = sumTo g (min k b.toNat) - sumTo g (min k a.toNat)
  | 0 => by simp [sumTo]
  | k + 1 => by
    have ih := sum_btw g a b hab k
    have e : sumTo (btw g a b) (k + 1) = sumTo (btw g a b) k + btw g a b k := rfl
    rw [e, ih]
    have hs : sumTo g (k + 1) = sumTo g k + g k := rfl
    unfold btw
    by_cases h1 : a ≤ (k : Int)
    · by_cases h2 : (k : Int) < b
      · rw [if_pos ⟨h1, h2⟩, show min (k + 1) b.toNat = k + 1 by omega, show min k b.toNat = k by omega, show min (k + 1) a.toNat = min k a.toNat by omega, hs]; omega
      · rw [if_neg (by omega), show min (k + 1) b.toNat = min k b.toNat by omega, show min (k + 1) a.toNat = min k a.toNat by omega]; omega
    · rw [if_neg (by omega), show min (k + 1) b.toNat = k + 1 by omega, show min k b.toNat = k by omega, show min (k + 1) a.toNat = k + 1 by omega, show min k a.toNat = k by omega]; omega
theorem hb_upto (g : Nat → Int) {a b : Int} (h : a ≤ b) : hb g a b = upto g b - upto g a := by rw [hb_def, sum_btw g a b h]; rfl
theorem hb_none (g : Nat → Int) {a b : Int} (h : b ≤ a) : hb g a b = 0 := by
  rw [hb_def]
  exact sum_zero (fun i _ => by unfold btw; rw [if_neg (by omega)])
/-- workdays from a to b -/
def wb (g : Nat → Int) (a b : Int) : Int := hb (one1 g) a b - hb (one1 g) b a
theorem wb_upto (g : Nat → Int) (a b : Int) : wb g a b = upto (one1 g) b - upto (one1 g) a := by
  unfold wb
  by_cases h : a ≤ b
  · rw [hb_upto _ h, hb_none _ h]; omega
  · rw [hb_none _ (by omega), hb_upto _ (show b ≤ a by omega)]; omega
theorem upto_bd {g : Nat → Int} {M : Int} (h : ∀ i, 0 ≤ g i ∧ g i ≤ M) (x : Int) : 0 ≤ upto g x ∧ upto g x ≤ M * 1000 := by
  have key : ∀ k : Nat, 0 ≤ sumTo g k ∧ sumTo g k ≤ M * (k : Int) := by
    intro k
    induction k with
    | zero => simp [sumTo]
    | succ k ih =>
      have e : sumTo g (k + 1) = sumTo g k + g k := rfl
      have := h k
      rw [e, show ((k + 1 : Nat) : Int) = (k : Int) + 1 by omega, Int.mul_add, Int.mul_one]
      omega
  have hM : 0 ≤ M := by have := h 0; omega
  have h1 := key (min 1000 x.toNat)
  have h2 : M * ((min 1000 x.toNat : Nat) : Int) ≤ M * 1000 := Int.mul_le_mul_of_nonneg_left (by omega) hM
  exact ⟨h1.1, by unfold upto; omega⟩
theorem one1_bd {g : Nat → Int} (h : ∀ i, 0 ≤ g i ∧ g i ≤ 24) (i : Nat) : 0 ≤ one1 g i ∧ one1 g i ≤ 1 := by have := h i; unfold one1; omega
theorem upto_nat (g : Nat → Int) {d : Nat} (hd : d ≤ 1000) : upto g (d : Int) = sumTo g d := by unfold upto; rw [show min 1000 (d : Int).toNat = d by omega]
theorem wb_bd {g : Nat → Int} (h : ∀ i, 0 ≤ g i ∧ g i ≤ 24) (a b : Int) : -1000 ≤ wb g a b ∧ wb g a b ≤ 1000 := by
  rw [wb_upto]
  have h1 := upto_bd (one1_bd h) a
  have h2 := upto_bd (one1_bd h) b
  omega
theorem hb_bd {g : Nat → Int} (h : ∀ i, 0 ≤ g i ∧ g i ≤ 24) (a b : Int) : 0 ≤ hb g a b ∧ hb g a b ≤ 24000 := by
  rw [hb_def]
  have := sum_range h a b 1000
  omega
theorem wb_add (g : Nat → Int) (a m b : Int) : wb g a m + wb g m b = wb g a b := by rw [wb_upto, wb_upto, wb_upto]; omega
theorem wb_neg (g : Nat → Int) (a b : Int) : wb g a b = -wb g b a := by rw [wb_upto, wb_upto]; omega
theorem hb_add (g : Nat → Int) {a m b : Int} (h1 : a ≤ m) (h2 : m ≤ b) : hb g a m + hb g m b = hb g a b := by
  rw [hb_upto _ h1, hb_upto _ h2, hb_upto _ (Int.le_trans h1 h2)]; omega
theorem fin_spec (g : Nat → Int) : ∀ (q d : Nat) (l : Int) (b : Nat), 0 < l → fin g q d l = some b → d ≤ b ∧ b < d + q ∧ l ≤ sumTo g (b + 1) - sumTo g d ∧ sumTo g b - sumTo g d < l
  | 0, _, _, _, _, h => by simp [fin] at h
  | q + 1, d, l, b, hl, h => by
    have e : sumTo g (d + 1) = sumTo g d + g d := rfl
    unfold fin at h
    by_cases c : l - g d ≤ 0
    · rw [if_pos c] at h
      injection h with h; subst h
      exact ⟨Nat.le_refl _, by omega, by omega, by omega⟩
    · rw [if_neg c] at h
      have := fin_spec g q (d + 1) (l - g d) b (by omega) h
      omega
theorem fwd_zero (o : Nat → Int) {q d b : Nat} (h : fwd o q d 0 = some b) : b = d := by
  cases q with
  | zero => simp [fwd] at h
  | succ q => simp [fwd] at h; exact h.symm
theorem fwd_spec (o : Nat → Int) : ∀ (q d : Nat) (k : Int) (b : Nat), fwd o q d k = some b → d ≤ b ∧ b < d + q ∧ sumTo o b - sumTo o d = k ∧ (k ≠ 0 → d < b ∧ o (b - 1) ≠ 0)
  | 0, _, _, _, h => by simp [fwd] at h
  | q + 1, d, k, b, h => by
    have e : sumTo o (d + 1) = sumTo o d + o d := rfl
    unfold fwd at h
    by_cases c : k = 0
    · rw [if_pos c] at h
      injection h with h; subst h
      exact ⟨Nat.le_refl _, by omega, by omega, fun h => absurd c h⟩
    · rw [if_neg c] at h
      obtain ⟨h1, h2, h3, h4⟩ := fwd_spec o q (d + 1) (k - o d) b h
      refine ⟨by omega, by omega, by omega, fun _ => ⟨by omega, ?_⟩⟩
      by_cases c2 : k - o d = 0
      · rw [c2] at h
        have := fwd_zero o h
        subst this
        show o d ≠ 0
        omega
      · exact (h4 c2).2
theorem bwd_spec (o : Nat → Int) : ∀ (d : Nat) (k : Int) (b : Nat), k ≠ 0 → bwd o d k = some b → b < d ∧ sumTo o d - sumTo o b = -k ∧ o b ≠ 0
  | 0, _, _, _, h => by simp [bwd] at h
  | d + 1, k, b, hk, h => by
    have e : sumTo o (d + 1) = sumTo o d + o d := rfl
    unfold bwd at h
    by_cases c : k + o d = 0
    · rw [if_pos c] at h
      injection h with h; subst h
      exact ⟨by omega, by omega, by omega⟩
    · rw [if_neg c] at h
      have := bwd_spec o d (k + o d) b c h
      omega
theorem one1_pos {g : Nat → Int} {i : Nat} (h : ∀ i, 0 ≤ g i ∧ g i ≤ 24) (h0 : one1 g i ≠ 0) : 0 < g i ∧ one1 g i = 1 := by have := h i; unfold one1 at *; omega
end Go.Proofs.Ytkbmlpnfdogioaa
