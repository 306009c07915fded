/-
  The place of a text in a list; contracts of l1Find and indexOf.
-/
import Derived.Test.YtkkhaamklbolmaaStrEq
namespace Go.Proofs.Ytkkhaamklbolmaa
open Go.RowKit
set_option linter.unusedVariables false
set_option linter.unusedSimpArgs false

/-- the first place of s among the first n texts -/
def fndS (f : Nat → ByteArray) (s : ByteArray) : Nat → Option Nat
  | 0 => none
  | k + 1 => match fndS f s k with
    | some i => some i
    | none => if f k = s then some k else none
def fndV (f : Nat → ByteArray) (s : ByteArray) (n : Nat) : Int := match fndS f s n with
  | some i => (i : Int)
  | none => -1
section
variable {f : Nat → ByteArray} {s : ByteArray}
theorem fndS_none {n : Nat} : fndS f s n = none ↔ ∀ i, i < n → f i ≠ s := by
  induction n with
  | zero => exact ⟨fun _ i hi => absurd hi (by omega), fun _ => rfl⟩
  | succ n ih =>
    constructor
    · intro h i hi
      simp only [fndS] at h
      cases hn : fndS f s n with
      | some j => rw [hn] at h; cases h
      | none =>
        rw [hn] at h
        by_cases e : i = n
        · subst e
          intro e2
          simp [e2] at h
        · exact ih.1 hn i (by omega)
    · intro h
      have h1 := ih.2 (fun i hi => h i (by omega))
      simp only [fndS, h1]
      rw [if_neg (h n (by omega))]
theorem fndS_keep {k n i : Nat} (h : fndS f s k = some i) (hk : k ≤ n) : fndS f s n = some i := by
  induction n with
  | zero => obtain rfl : k = 0 := by omega
            exact h
  | succ n ih =>
    by_cases e : k = n + 1
    · subst e; exact h
    · simp only [fndS, ih (by omega)]
theorem fndS_hit {k n : Nat} (h : fndS f s k = none) (hk : k < n) (e : f k = s) : fndV f s n = (k : Int) := by
  have h1 : fndS f s (k + 1) = some k := by simp only [fndS, h]; rw [if_pos e]
  unfold fndV
  rw [fndS_keep h1 (by omega)]
theorem fndS_some {n i : Nat} (h : fndS f s n = some i) : i < n ∧ f i = s ∧ ∀ j, j < i → f j ≠ s := by
  induction n with
  | zero => simp [fndS] at h
  | succ n ih =>
    simp only [fndS] at h
    cases hn : fndS f s n with
    | some j =>
      rw [hn] at h ih
      injection h with h
      subst h
      obtain ⟨h1, h2⟩ := ih rfl
      exact ⟨by omega, h2⟩
    | none =>
      rw [hn] at h
      by_cases e : f n = s
      · rw [if_pos e] at h
        injection h with h
        subst h
        exact ⟨by omega, e, fndS_none.1 hn⟩
      · rw [if_neg e] at h; cases h
theorem fndV_neg {n : Nat} : fndV f s n < 0 ↔ ∀ i, i < n → f i ≠ s := by
  rw [← fndS_none]
  unfold fndV
  cases fndS f s n with
  | none => simp
  | some i => simp
theorem fndV_bd (n : Nat) : -1 ≤ fndV f s n ∧ fndV f s n < (n : Int) ∨ fndV f s n = -1 := by
  unfold fndV
  cases h : fndS f s n with
  | none => right; rfl
  | some i => left; have := (fndS_some h).1; simp; omega
end
theorem txt_same (a : ByteArray) : (a.toList == a.toList) = true := by simp
theorem txt_other {a b : ByteArray} (h : ¬ a = b) : (a.toList == b.toList) = false := by
  rw [beq_eq_false_iff_ne]
  intro e
  apply h
  apply ByteArray.ext
  rw [ByteArray.toList_eq, ByteArray.toList_eq] at e
  exact Array.toList_inj.1 e
theorem l1Find_any (w : World) (A : Option Addr) (n cap : Nat) (f : Nat → ByteArray) (s : ByteArray) (h : StrsF w A n cap f) :
    Calls Try.prog 58 #[.slice A n cap, .string s] w fun e w' => e = .returned (.int .i64 (fndV f s n)) ∧ w' = w := by
  have hn := h.le
  have H := Lib.hid h
  clear h
  obtain ⟨R, hR⟩ : ∃ R, R = fndV f s n := ⟨_, rfl⟩
  have HR := Lib.hid hR
  rw [← hR]
  clear hR
  go_enter Try.func58, Try.ntmps58
  go_wp2_with fail
  go_loop [5] (fun i => ∃ k : Nat, k ≤ n ∧ i = .int .i64 (k : Int) ∧ fndS f s k = none) (fun i => n - (intOf i).toNat)
  case atStart => exact ⟨0, Nat.zero_le _, rfl, rfl⟩
  case round =>
    obtain ⟨k, hk, rfl, hno⟩ := hrel
    have HN := Lib.hid hno
    clear hno
    by_cases hlt : k < n
    · have hlt' : (k : Int) < (n : Int) := by omega
      obtain ⟨b, o, rfl, hB, hc⟩ := H.out.cell hlt
      by_cases he : f k = s
      · have e := fndS_hit HN.out hlt he
        have hx := txt_same s
        rw [he] at hc
        have E := Lib.hid e
        clear e he
        go_wp2_with fail
        go_ret
        exact ⟨by rw [HR.out, E.out]; rfl, rfl⟩
      · have hx := txt_other he
        have E := Lib.hid (show fndS f s (k + 1) = none by simp only [fndS, HN.out]; rw [if_neg he])
        clear he
        go_wp2_with fail
        go_round
        case rel => exact ⟨k + 1, by omega, by go_num, E.out⟩
        case measure => simp [intOf]; omega
    · obtain rfl : k = n := by omega
      have e : fndV f s k = -1 := by unfold fndV; rw [HN.out]
      have E := Lib.hid e
      clear e
      go_wp2_with fail
      go_ret
      exact ⟨by rw [HR.out, E.out]; rfl, rfl⟩
theorem indexOf_any (w : World) (A : Option Addr) (n cap : Nat) (f : Nat → ByteArray) (s : ByteArray) (h : StrsF w A n cap f) :
    Calls Try.prog 59 #[.slice A n cap, .string s] w fun e w' => e = .returned (.int .i64 (fndV f s n)) ∧ w' = w := by
  have hn := h.le
  have H := Lib.hid h
  clear h
  obtain ⟨R, hR⟩ : ∃ R, R = fndV f s n := ⟨_, rfl⟩
  have HR := Lib.hid hR
  rw [← hR]
  clear hR
  go_enter Try.func59, Try.ntmps59
  go_wp2_with fail
  go_loop [5, 6, 9] (fun _ _ i => ∃ k : Nat, k ≤ n ∧ i = .int .i64 (k : Int) ∧ fndS f s k = none) (fun _ _ i => n - (intOf i).toNat)
  case atStart => exact ⟨0, Nat.zero_le _, rfl, rfl⟩
  case round =>
    obtain ⟨k, hk, rfl, hno⟩ := hrel
    have HN := Lib.hid hno
    clear hno
    by_cases hlt : k < n
    · have hlt' : (k : Int) < (n : Int) := by omega
      obtain ⟨b, o, rfl, hB, hc⟩ := H.out.cell hlt
      by_cases he : f k = s
      · have e := fndS_hit HN.out hlt he
        have hx := txt_same s
        rw [he] at hc
        have E := Lib.hid e
        clear e he
        go_wp2_with fail
        go_ret
        exact ⟨by rw [HR.out, E.out]; rfl, rfl⟩
      · have hx := txt_other he
        have E := Lib.hid (show fndS f s (k + 1) = none by simp only [fndS, HN.out]; rw [if_neg he])
        clear he
        go_wp2_with fail
        go_round
        case rel => exact ⟨k + 1, by omega, by go_num, E.out⟩
        case measure => simp [intOf]; omega
    · obtain rfl : k = n := by omega
      have e : fndV f s k = -1 := by unfold fndV; rw [HN.out]
      have E := Lib.hid e
      clear e
      go_wp2_with fail
      go_ret
      exact ⟨by rw [HR.out, E.out]; rfl, rfl⟩
end Go.Proofs.Ytkkhaamklbolmaa
