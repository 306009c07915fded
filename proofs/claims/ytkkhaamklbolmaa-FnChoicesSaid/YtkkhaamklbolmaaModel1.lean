/-
  Lists of codes that differ: different, l7Codes, in. (Printed by gen/model1.py.)
-/
import Derived.Test.YtkkhaamklbolmaaCode
import Derived.Test.YtkkhaamklbolmaaFind
namespace Go.Proofs.Ytkkhaamklbolmaa
open Go.RowKit
set_option linter.unusedVariables false
set_option linter.unusedSimpArgs false

/-- all are codes, no two are equal -/
def diffB (f : Nat → ByteArray) (n : Nat) : Bool := (List.range n).all fun i => isC (f i) && decide (fndV f (f i) n = (i : Int))
theorem diff_iff {f : Nat → ByteArray} {n : Nat} : diffB f n = true ↔ ∀ i, i < n → isC (f i) = true ∧ fndV f (f i) n = (i : Int) := by
  unfold diffB
  rw [List.all_eq_true]
  constructor
  · intro h i hi; have := h i (List.mem_range.2 hi); simpa using this
  · intro h i hi; have := h i (List.mem_range.1 hi); simpa using this
theorem diff_no {f : Nat → ByteArray} {n k : Nat} (hk : k < n) (h : ¬ (isC (f k) = true ∧ fndV f (f k) n = (k : Int))) : diffB f n = false := by
  rw [← Bool.not_eq_true, diff_iff]; exact fun q => h (q k hk)
/-- at least one, not too many -/
def codesB (f : Nat → ByteArray) (n : Nat) (most : Int) : Bool := diffB f n && (decide (1 ≤ n) && decide ((n : Int) ≤ most))

set_option maxHeartbeats 1000000 in
theorem different_any (w : World) (A : Option Addr) (n cap : Nat) (f : Nat → ByteArray) (h : StrsF w A n cap f) :
    Calls Try.prog 84 #[.slice A n cap] w fun e w' => e = .returned (.bool (diffB f n)) ∧ w' = w := by
  have hn := h.le
  have H := Lib.hid h
  clear h
  have FND := Lib.hid (fun s => indexOf_any w A n cap f s H.out)
  have NO := Lib.hid (fun (k : Nat) (hk : k < n) (h : ¬ (isC (f k) = true ∧ fndV f (f k) n = (k : Int))) => diff_no hk h)
  have YES := Lib.hid (fun (h : ∀ j, j < n → isC (f j) = true ∧ fndV f (f j) n = (j : Int)) => diff_iff.2 h)
  have SZ := Lib.hid H.out.size
  generalize (diffB f n) = R at *
  go_enter Try.func84, Try.ntmps84
  go_wp2_with fail
  go_loop [3, 4, 7] (fun _ _ i => ∃ k : Nat, k ≤ n ∧ i = .int .i64 (k : Int) ∧ ∀ j, j < k → isC (f j) = true ∧ fndV f (f j) n = (j : Int)) (fun _ _ i => n - (intOf i).toNat)
  case atStart => exact ⟨0, Nat.zero_le _, rfl, fun j hj => absurd hj (by omega)⟩
  case round =>
    obtain ⟨k, hk, rfl, hall⟩ := hrel
    have HA := Lib.hid hall
    clear hall
    by_cases hlt : k < n
    · have hlt' : (k : Int) < (n : Int) := by omega
      obtain ⟨b, o, rfl, hB, hc⟩ := H.out.cell hlt
      have F1 := Lib.hid (FND.out (f k))
      have N1 := Lib.hid (NO.out k hlt)
      have Z1 := SZ.out k hlt
      have A1 := Lib.hid (fun (h : isC (f k) = true ∧ fndV f (f k) n = (k : Int)) (j : Nat) (hj : j < k + 1) => show isC (f j) = true ∧ fndV f (f j) n = (j : Int) from by
        by_cases e : j = k
        · subst e; exact h
        · exact HA.out j (by omega))
      generalize hv : fndV f (f k) n = v at *
      clear hv
      generalize hs : f k = s at *
      clear hs NO FND
      cases hi : isC s
      · rw [hi] at N1
        have e : R = false := N1.out (by simp)
        go_wp2_with fail
        refine (impl_isCode s _ Z1).mono ?_; rintro e w1 ⟨rfl, hw⟩; obtain rfl := hw.symm
        rw [hi]
        go_wp2_with fail
        go_ret
        exact ⟨by simp [*], rfl⟩
      · rw [hi] at N1 A1
        by_cases hvk : v = (k : Int)
        · subst hvk
          have A2 := Lib.hid (A1.out ⟨rfl, rfl⟩)
          clear A1 N1
          go_wp2_with fail
          refine (impl_isCode s _ Z1).mono ?_; rintro e w1 ⟨rfl, hw⟩; obtain rfl := hw.symm
          rw [hi]
          go_wp2_with fail
          refine F1.out.mono ?_; rintro e w1 ⟨rfl, hw⟩; obtain rfl := hw.symm
          go_wp2_with fail
          go_round
          case rel => exact ⟨k + 1, by omega, by go_num, A2.out⟩
          case measure => simp [intOf]; omega
        · have e : R = false := N1.out (fun q => hvk q.2)
          have hd : (v != (k : Int)) = true := by simpa using hvk
          clear A1 N1
          go_wp2_with fail
          refine (impl_isCode s _ Z1).mono ?_; rintro e w1 ⟨rfl, hw⟩; obtain rfl := hw.symm
          rw [hi]
          go_wp2_with fail
          refine F1.out.mono ?_; rintro e w1 ⟨rfl, hw⟩; obtain rfl := hw.symm
          go_wp2_with fail
          go_ret
          exact ⟨by simp [*], rfl⟩
    · obtain rfl : k = n := by omega
      have hlt' : ¬ (k : Int) < (k : Int) := by omega
      have e : R = true := YES.out HA.out
      go_wp2_with fail
      go_ret
      exact ⟨by simp [*], rfl⟩
set_option maxHeartbeats 1000000 in
theorem l7Codes_any (w : World) (A : Option Addr) (n cap : Nat) (f : Nat → ByteArray) (most : Int) (h : StrsF w A n cap f) :
    Calls Try.prog 80 #[.slice A n cap, .int .i64 most] w fun e w' => e = .returned (.bool (codesB f n most)) ∧ w' = w := by
  have hn := h.le
  have H := Lib.hid h
  clear h
  have FND := Lib.hid (fun s => l1Find_any w A n cap f s H.out)
  have NO := Lib.hid (fun (k : Nat) (hk : k < n) (h : ¬ (isC (f k) = true ∧ fndV f (f k) n = (k : Int))) => show codesB f n most = false from by unfold codesB; rw [diff_no hk h]; rfl)
  have YES := Lib.hid (fun (h : ∀ j, j < n → isC (f j) = true ∧ fndV f (f j) n = (j : Int)) => show codesB f n most = (decide (1 ≤ n) && decide ((n : Int) ≤ most)) from by unfold codesB; rw [diff_iff.2 h]; rfl)
  have SZ := Lib.hid H.out.size
  generalize (codesB f n most) = R at *
  go_enter Try.func80, Try.ntmps80
  go_wp2_with fail
  go_loop [5] (fun i => ∃ k : Nat, k ≤ n ∧ i = .int .i64 (k : Int) ∧ ∀ j, j < k → isC (f j) = true ∧ fndV f (f j) n = (j : Int)) (fun i => n - (intOf i).toNat)
  case atStart => exact ⟨0, Nat.zero_le _, rfl, fun j hj => absurd hj (by omega)⟩
  case round =>
    obtain ⟨k, hk, rfl, hall⟩ := hrel
    have HA := Lib.hid hall
    clear hall
    by_cases hlt : k < n
    · have hlt' : (k : Int) < (n : Int) := by omega
      obtain ⟨b, o, rfl, hB, hc⟩ := H.out.cell hlt
      have F1 := Lib.hid (FND.out (f k))
      have N1 := Lib.hid (NO.out k hlt)
      have Z1 := SZ.out k hlt
      have A1 := Lib.hid (fun (h : isC (f k) = true ∧ fndV f (f k) n = (k : Int)) (j : Nat) (hj : j < k + 1) => show isC (f j) = true ∧ fndV f (f j) n = (j : Int) from by
        by_cases e : j = k
        · subst e; exact h
        · exact HA.out j (by omega))
      generalize hv : fndV f (f k) n = v at *
      clear hv
      generalize hs : f k = s at *
      clear hs NO FND
      cases hi : isC s
      · rw [hi] at N1
        have e : R = false := N1.out (by simp)
        go_wp2_with fail
        refine (spec_isCode s _ Z1).mono ?_; rintro e w1 ⟨rfl, hw⟩; obtain rfl := hw.symm
        rw [hi]
        go_wp2_with fail
        go_ret
        exact ⟨by simp [*], rfl⟩
      · rw [hi] at N1 A1
        by_cases hvk : v = (k : Int)
        · subst hvk
          have A2 := Lib.hid (A1.out ⟨rfl, rfl⟩)
          clear A1 N1
          go_wp2_with fail
          refine (spec_isCode s _ Z1).mono ?_; rintro e w1 ⟨rfl, hw⟩; obtain rfl := hw.symm
          rw [hi]
          go_wp2_with fail
          refine F1.out.mono ?_; rintro e w1 ⟨rfl, hw⟩; obtain rfl := hw.symm
          go_wp2_with fail
          go_round
          case rel => exact ⟨k + 1, by omega, by go_num, A2.out⟩
          case measure => simp [intOf]; omega
        · have e : R = false := N1.out (fun q => hvk q.2)
          have hd : (v != (k : Int)) = true := by simpa using hvk
          clear A1 N1
          go_wp2_with fail
          refine (spec_isCode s _ Z1).mono ?_; rintro e w1 ⟨rfl, hw⟩; obtain rfl := hw.symm
          rw [hi]
          go_wp2_with fail
          refine F1.out.mono ?_; rintro e w1 ⟨rfl, hw⟩; obtain rfl := hw.symm
          go_wp2_with fail
          go_ret
          exact ⟨by simp [*], rfl⟩
    · obtain rfl : k = n := by omega
      have hlt' : ¬ (k : Int) < (k : Int) := by omega
      have e := YES.out HA.out
      by_cases c1 : 1 ≤ k
      · have d1 : (1 : Int) ≤ (k : Int) := by omega
        by_cases c2 : (k : Int) ≤ most
        · have e2 : R = true := by rw [e]; simp [c1, c2]
          clear e
          go_wp2_with fail
          go_ret
          exact ⟨by simp [*], rfl⟩
        · have e2 : R = false := by rw [e]; simp [c2]
          clear e
          go_wp2_with fail
          go_ret
          exact ⟨by simp [*], rfl⟩
      · have d1 : ¬ (1 : Int) ≤ (k : Int) := by omega
        have e2 : R = false := by rw [e]; simp [c1]
        clear e
        go_wp2_with fail
        go_ret
        exact ⟨by simp [*], rfl⟩
theorem in_any (n a b : Int) (w : World) : Calls Try.prog 83 #[.int .i64 n, .int .i64 a, .int .i64 b] w fun e w' => e = .returned (.bool (decide (a ≤ n) && decide (n ≤ b))) ∧ w' = w := by
  by_cases h1 : a ≤ n
  · by_cases h2 : n ≤ b
    all_goals
      go_enter Try.func83, Try.ntmps83
      go_wp2_with fail
      go_ret
      exact ⟨by simp [*], rfl⟩
  · go_enter Try.func83, Try.ntmps83
    go_wp2_with fail
    go_ret
    exact ⟨by simp [*]; intro _; omega, rfl⟩
end Go.Proofs.Ytkkhaamklbolmaa
