/-
  Plain arithmetic of calendars: no program in sight.
-/
import Derived.Test.YtkbmlpnfdogioaaNum
import Derived.Test.YtkbmlpnfdogioaaCost
namespace Go.Proofs.Ytkbmlpnfdogioaa
open cost
set_option linter.unusedVariables false

/-- a valid exception, behind the one before it -/
def excOk (dy hr : Nat → Int) (i : Nat) : Prop := (0 ≤ dy i ∧ dy i ≤ 999) ∧ (0 ≤ hr i ∧ hr i ≤ 24) ∧ (i = 0 ∨ dy (i - 1) < dy i)
instance (dy hr : Nat → Int) (i : Nat) : Decidable (excOk dy hr i) := by unfold excOk; infer_instance
open Classical in
/-- a valid calendar -/
noncomputable def calB (n : Nat) (f : Nat → Int) (m : Nat) (dy hr : Nat → Int) : Bool :=
  decide (n = 7 ∧ m ≤ 20 ∧ (∀ i, i < 7 → 0 ≤ f i ∧ f i ≤ 24) ∧ ∀ i, i < m → excOk dy hr i)
theorem calB_iff {n : Nat} {f : Nat → Int} {m : Nat} {dy hr : Nat → Int} : calB n f m dy hr = true ↔ (n = 7 ∧ m ≤ 20 ∧ (∀ i, i < 7 → 0 ≤ f i ∧ f i ≤ 24) ∧ ∀ i, i < m → excOk dy hr i) := by simp [calB]
/-- the hours of a day -/
def over (f : Nat → Int) (dy hr : Nat → Int) : Nat → Nat → Int
  | 0, d => f (d % 7)
  | k + 1, d => if dy k = (d : Int) then hr k else over f dy hr k d
theorem over_none {f dy hr : Nat → Int} {d : Nat} : ∀ m, (∀ i, i < m → dy i ≠ (d : Int)) → over f dy hr m d = f (d % 7)
  | 0, _ => rfl
  | m + 1, h => by
    unfold over
    rw [if_neg (h m (by omega))]
    exact over_none m (fun i hi => h i (by omega))
theorem over_some {f dy hr : Nat → Int} {d i : Nat} (hd : dy i = (d : Int)) : ∀ m, i < m → (∀ j, i < j → j < m → dy j ≠ (d : Int)) → over f dy hr m d = hr i
  | 0, h, _ => by omega
  | m + 1, h, hn => by
    unfold over
    by_cases e : i = m
    · subst e; rw [if_pos hd]
    · rw [if_neg (hn m (by omega) (by omega))]
      exact over_some hd m (by omega) (fun j h1 h2 => hn j h1 (by omega))
section
variable {n : Nat} {f : Nat → Int} {m : Nat} {dy hr : Nat → Int} (h : calB n f m dy hr = true)
include h
theorem cal_mono {i j : Nat} (hij : i < j) (hj : j < m) : dy i < dy j := by
  have h4 := (calB_iff.1 h).2.2.2
  have key : ∀ k, i < k → k < m → dy i < dy k := by
    intro k
    induction k with
    | zero => intro h; omega
    | succ k ih =>
      intro h1 h2
      have h5 : dy k < dy (k + 1) := by
        rcases (h4 (k + 1) h2).2.2 with h | h
        · omega
        · exact h
      by_cases e : i = k
      · subst e; exact h5
      · have := ih (by omega) (by omega); omega
  exact key j hij hj
theorem cal_over (d : Nat) : 0 ≤ over f dy hr m d ∧ over f dy hr m d ≤ 24 := by
  obtain ⟨h1, h2, h3, h4⟩ := calB_iff.1 h
  have key : ∀ k, k ≤ m → 0 ≤ over f dy hr k d ∧ over f dy hr k d ≤ 24 := by
    intro k
    induction k with
    | zero => intro _; exact h3 _ (Nat.mod_lt _ (by omega))
    | succ k ih =>
      intro hk
      unfold over
      split
      · exact (h4 k (by omega)).2.1
      · exact ih (by omega)
  exact key m (Nat.le_refl _)
theorem cal_at {i : Nat} (hi : i < m) (d : Nat) (hd : dy i = (d : Int)) : over f dy hr m d = hr i :=
  over_some hd m hi (fun j h1 h2 => by have := cal_mono h h1 h2; omega)
end
/-- the sum of the days from a on and before b -/
def btw (g : Nat → Int) (a b : Int) (d : Nat) : Int := if a ≤ (d : Int) ∧ (d : Int) < b then g d else 0
@[irreducible] def hb (g : Nat → Int) (a b : Int) : Int := sumTo (btw g a b) 1000
theorem hb_def (g : Nat → Int) (a b : Int) : hb g a b = sumTo (btw g a b) 1000 := by unfold hb; rfl
theorem sum_zero {F : Nat → Int} : ∀ {k}, (∀ i, i < k → F i = 0) → sumTo F k = 0
  | 0, _ => rfl
  | k + 1, h => by
    have := sum_zero (F := F) (k := k) (fun i hi => h i (by omega))
    simp only [sumTo] at this ⊢
    rw [this, h k (by omega)]; rfl
theorem sum_stop {F : Nat → Int} {k n : Nat} (hk : k ≤ n) (h : ∀ i, k ≤ i → i < n → F i = 0) : sumTo F n = sumTo F k := by
  induction n with
  | zero => obtain rfl : k = 0 := by omega
            rfl
  | succ n ih =>
    by_cases e : k = n + 1
    · subst e; rfl
    · have := ih (by omega) (fun i h1 h2 => h i h1 (by omega))
      simp only [sumTo] at this ⊢
      rw [this, h n (by omega) (by omega)]; omega
theorem sum_range {g : Nat → Int} {M : Int} (h : ∀ i, 0 ≤ g i ∧ g i ≤ M) (a b : Int) : ∀ k : Nat, 0 ≤ sumTo (btw g a b) k ∧ sumTo (btw g a b) k ≤ M * (k : Int)
  | 0 => by simp [sumTo]
  | k + 1 => by
    have ih := sum_range h a b k
    have h1 := h k
    have e2 : M * ((k + 1 : Nat) : Int) = M * (k : Int) + M := by rw [show ((k + 1 : Nat) : Int) = (k : Int) + 1 by omega, Int.mul_add, Int.mul_one]
    have h2 : btw g a b k = 0 ∨ btw g a b k = g k := by
      unfold btw
      split
      · exact .inr rfl
      · exact .inl rfl
    simp only [sumTo] at ih ⊢
    omega
/-- workdays count one each -/
def one1 (g : Nat → Int) (d : Nat) : Int := min (g d) 1
/-- from day d on with k workdays to go: q days are left -/
def fwd (g : Nat → Int) : Nat → Nat → Int → Option Nat
  | 0, _, _ => none
  | q + 1, d, k => if k = 0 then some d else fwd g q (d + 1) (k - g d)
/-- back from day d -/
def bwd (g : Nat → Int) : Nat → Int → Option Nat
  | 0, _ => none
  | d + 1, k => if k + g d = 0 then some d else bwd g d (k + g d)
/-- until so many hours are worked -/
def fin (g : Nat → Int) : Nat → Nat → Int → Option Nat
  | 0, _, _ => none
  | q + 1, d, l => if l - g d ≤ 0 then some d else fin g q (d + 1) (l - g d)
def addW (g : Nat → Int) (day : Nat) (n : Int) : Option Nat := if 0 ≤ n then fwd (one1 g) (1000 - day) day n else bwd (one1 g) day n
def resN (o : Option Nat) : Int := match o with | some d => (d : Int) | none => 0
def resB (o : Option Nat) : Bool := o.isSome
end Go.Proofs.Ytkbmlpnfdogioaa
