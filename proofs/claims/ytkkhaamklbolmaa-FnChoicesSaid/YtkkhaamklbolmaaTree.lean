/-
  Conditions as trees: the tree of a list of nodes in postorder; its text (no program in sight).
-/
import Derived.Test.YtkkhaamklbolmaaEvalNum
namespace Go.Proofs.Ytkkhaamklbolmaa
open Go.RowKit
set_option linter.unusedVariables false
set_option linter.unusedSimpArgs false

inductive Cnd
  | tt
  | is (o v : ByteArray)
  | no (a : Cnd)
  | bin (x : Bool) (a b : Cnd)
/-- nodes s, .., e - 1 are this tree's -/
inductive Sub (kd : Nat → Int) (op vl : Nat → ByteArray) : Nat → Nat → Cnd → Prop
  | tt {s : Nat} (h : kd s = 0) : Sub kd op vl s (s + 1) .tt
  | is {s : Nat} (h : kd s = 1) (ho : isC (op s) = true) (hv : isC (vl s) = true) : Sub kd op vl s (s + 1) (.is (op s) (vl s))
  | no {s e : Nat} {a : Cnd} (r : Sub kd op vl s e a) (h : kd e = 2) : Sub kd op vl s (e + 1) (.no a)
  | bin {s m e : Nat} {x : Bool} {a b : Cnd} (r : Sub kd op vl s m a) (q : Sub kd op vl m e b) (h : kd e = if x then 3 else 4) : Sub kd op vl s (e + 1) (.bin x a b)
inductive Forest (kd : Nat → Int) (op vl : Nat → ByteArray) : Nat → Nat → Prop
  | nil : Forest kd op vl 0 0
  | cons {s e h : Nat} {t : Cnd} (f : Forest kd op vl s h) (r : Sub kd op vl s e t) : Forest kd op vl e (h + 1)
section
variable {kd : Nat → Int} {op vl : Nat → ByteArray}
theorem Sub.lt {s e : Nat} {t : Cnd} (h : Sub kd op vl s e t) : s < e := by
  induction h with
  | tt h => omega
  | is h => omega
  | no r h ih => omega
  | bin r q h ih1 ih2 => omega
theorem Forest.zero {s h : Nat} (f : Forest kd op vl s h) (h0 : h = 0) : s = 0 := by
  cases f with
  | nil => rfl
  | cons f r => omega
theorem runN_step {k x : Nat} (hx : runN kd op vl (k + 1) = some x) : ∃ h, runN kd op vl k = some h ∧ okN (kd k) (op k) (vl k) = true ∧ stepN (kd k) h = some x := by
  cases hr : runN kd op vl k with
  | none => simp [runN, hr] at hx
  | some h =>
    simp only [runN, hr] at hx
    split at hx
    · next ho => exact ⟨h, rfl, ho, hx⟩
    · cases hx
theorem forest_of : ∀ {k h : Nat}, runN kd op vl k = some h → Forest kd op vl k h
  | 0, h, e => by simp [runN] at e; subst e; exact .nil
  | k + 1, x, e => by
    obtain ⟨h, hr, ho, hs⟩ := runN_step e
    have f := forest_of hr
    rcases runN_kind hr e with ⟨e0 | e0, rfl⟩ | ⟨e0, h1, rfl⟩ | ⟨e0, h1, rfl⟩
    · exact .cons f (.tt e0)
    · rw [e0, okN_one, Bool.and_eq_true] at ho
      exact .cons f (.is e0 ho.1 ho.2)
    · cases f with
      | nil => omega
      | cons f r => exact .cons f (.no r e0)
    · cases f with
      | nil => omega
      | cons f r =>
        cases f with
        | nil => omega
        | cons f r' =>
          rw [Nat.add_sub_cancel]
          exact .cons f (.bin (x := decide (kd k = 3)) r' r (by rcases e0 with e0 | e0 <;> simp [e0]))
/-- a condition is a tree -/
theorem tree_of {n : Nat} (h : isCondB kd op vl n = true) : ∃ t, Sub kd op vl 0 n t := by
  unfold isCondB at h
  simp only [Bool.and_eq_true, decide_eq_true_eq] at h
  have f := forest_of h.2
  cases f with
  | cons f r =>
    have := f.zero rfl
    subst this
    exact ⟨_, r⟩
/-- how many operands are wanted less are there -/
def defi (kd : Nat → Int) : Nat → Int
  | 0 => 0
  | k + 1 => defi kd k + (arity (kd k) - 1)
theorem defi_le (kd : Nat → Int) : ∀ k : Nat, -2 * (k : Int) ≤ defi kd k ∧ defi kd k ≤ (k : Int)
  | 0 => by simp [defi]
  | k + 1 => by
    have := defi_le kd k
    have h2 : -1 ≤ arity (kd k) ∧ arity (kd k) ≤ 2 := by
      unfold arity
      split
      · omega
      · split
        · omega
        · split <;> omega
    simp only [defi]; omega
theorem Sub.defi {s e : Nat} {t : Cnd} (h : Sub kd op vl s e t) : Go.Proofs.Ytkkhaamklbolmaa.defi kd e = Go.Proofs.Ytkkhaamklbolmaa.defi kd s - 1 ∧ ∀ i, s < i → i < e → Go.Proofs.Ytkkhaamklbolmaa.defi kd i ≤ Go.Proofs.Ytkkhaamklbolmaa.defi kd e := by
  induction h with
  | @tt s h => exact ⟨by simp only [Go.Proofs.Ytkkhaamklbolmaa.defi, h, arity0]; omega, fun i h1 h2 => by omega⟩
  | @is s h ho hv => exact ⟨by simp only [Go.Proofs.Ytkkhaamklbolmaa.defi, h, arity1]; omega, fun i h1 h2 => by omega⟩
  | @no s e a r h ih =>
    have e1 : Go.Proofs.Ytkkhaamklbolmaa.defi kd (e + 1) = Go.Proofs.Ytkkhaamklbolmaa.defi kd e := by simp only [Go.Proofs.Ytkkhaamklbolmaa.defi, h, arity2]; omega
    refine ⟨by rw [e1]; exact ih.1, fun i h1 h2 => ?_⟩
    rw [e1]
    by_cases he : i = e
    · subst he; exact Int.le_refl _
    · exact ih.2 i h1 (by omega)
  | @bin s m e x a b r q h ih1 ih2 =>
    have e1 : Go.Proofs.Ytkkhaamklbolmaa.defi kd (e + 1) = Go.Proofs.Ytkkhaamklbolmaa.defi kd e + 1 := by
      simp only [Go.Proofs.Ytkkhaamklbolmaa.defi, h]
      cases x
      · simp [arity4]
      · simp [arity3]
    have h0 := r.lt
    have h1 := q.lt
    refine ⟨by rw [e1, ih2.1, ih1.1]; omega, fun i hi1 hi2 => ?_⟩
    rw [e1]
    by_cases he : i = e
    · subst he; omega
    · by_cases hm : i = m
      · subst hm; rw [ih2.1]; omega
      · by_cases hlt : m < i
        · have := ih2.2 i hlt (by omega); omega
        · have := ih1.2 i hi1 (by omega)
          rw [ih2.1]; omega
/-- the node that ends it -/
def Cnd.kind : Cnd → Int
  | .tt => 0
  | .is _ _ => 1
  | .no _ => 2
  | .bin x _ _ => if x then 3 else 4
theorem Sub.kind {s i : Nat} {t : Cnd} (h : Sub kd op vl s (i + 1) t) : kd i = t.kind := by
  cases h with
  | tt h => exact h
  | is h => exact h
  | no r h => exact h
  | bin r q h => exact h
def Cnd.lvl : Cnd → Int
  | .bin x _ _ => if x then 2 else 1
  | _ => 3
def par (p : Bool) (s : ByteArray) : ByteArray := if p then (⟨#[40]⟩ ++ s) ++ ⟨#[41]⟩ else s
/-- its text -/
def Cnd.txt : Cnd → ByteArray
  | .tt => ⟨#[84, 82, 85, 69]⟩
  | .is o v => (o ++ ⟨#[61]⟩) ++ v
  | .no a => ⟨#[33]⟩ ++ par (decide (a.lvl < 3)) a.txt
  | .bin true a b => (par (decide (a.lvl < 2)) a.txt ++ ⟨#[32, 38, 32]⟩) ++ par (decide (b.lvl < 3)) b.txt
  | .bin false a b => (par (decide (a.lvl < 1)) a.txt ++ ⟨#[32, 124, 32]⟩) ++ par (decide (b.lvl < 2)) b.txt
/-- in parentheses if it binds less than is asked -/
def Cnd.fmt (t : Cnd) (least : Int) : ByteArray := par (decide (t.lvl < least)) t.txt
theorem par_size (p : Bool) (s : ByteArray) : (par p s).size ≤ s.size + 2 := by
  unfold par
  split
  · rw [ByteArray.size_append, ByteArray.size_append]
    have h1 : (⟨#[40]⟩ : ByteArray).size = 1 := rfl
    have h2 : (⟨#[41]⟩ : ByteArray).size = 1 := rfl
    omega
  · omega
theorem Sub.size {s e : Nat} {t : Cnd} (h : Sub kd op vl s e t) : t.txt.size ≤ 24 * (e - s) := by
  induction h with
  | @tt s h => 
    have : (Cnd.tt.txt).size = 4 := rfl
    omega
  | @is s h ho hv =>
    have h1 := (isC_iff.1 ho).2.1
    have h2 := (isC_iff.1 hv).2.1
    have h3 : (⟨#[61]⟩ : ByteArray).size = 1 := rfl
    simp only [Cnd.txt, ByteArray.size_append]
    omega
  | @no s e a r h ih =>
    have h1 := par_size (decide (a.lvl < 3)) a.txt
    have h2 := r.lt
    have h3 : (⟨#[33]⟩ : ByteArray).size = 1 := rfl
    simp only [Cnd.txt, ByteArray.size_append]
    omega
  | @bin s m e x a b r q h ih1 ih2 =>
    have h1 := r.lt
    have h2 := q.lt
    have h3 : (⟨#[32, 38, 32]⟩ : ByteArray).size = 3 := rfl
    have h4 : (⟨#[32, 124, 32]⟩ : ByteArray).size = 3 := rfl
    cases x
    · have k1 := par_size (decide (a.lvl < 1)) a.txt
      have k2 := par_size (decide (b.lvl < 2)) b.txt
      simp only [Cnd.txt, ByteArray.size_append]
      omega
    · have k1 := par_size (decide (a.lvl < 2)) a.txt
      have k2 := par_size (decide (b.lvl < 3)) b.txt
      simp only [Cnd.txt, ByteArray.size_append]
      omega
theorem Sub.fmtSize {s e : Nat} {t : Cnd} (h : Sub kd op vl s e t) (least : Int) : (t.fmt least).size ≤ 24 * (e - s) + 2 := by
  have h1 := par_size (decide (t.lvl < least)) t.txt
  have h2 := h.size
  unfold Cnd.fmt
  omega
end
end Go.Proofs.Ytkkhaamklbolmaa
