/-
  Slices of texts: how they read; contracts of the laws' helpers eqStringS.
-/
import Derived.Test.YtkkhaamklbolmaaChecked
import Derived.Test.YtkkhaamklbolmaaHeap
import Derived.Deep.QuietTactic
import Derived.BigQuiet
namespace Go.Proofs.Ytkkhaamklbolmaa
open Go.RowKit
set_option linter.unusedVariables false
set_option linter.unusedSimpArgs false

/-- what a text's cell holds -/
def strC (f : Nat → ByteArray) (j q : Nat) : Value := .string (f j)
/-- a slice of texts -/
structure StrsF (w : World) (A : Option Addr) (n cap : Nat) (f : Nat → ByteArray) : Prop where
  sl : SliceF w A n cap 1 (strC f)
  size : ∀ i, i < n → (f i).size ≤ 9223372036854775807
section
variable {w w' : World} {A : Option Addr} {n cap : Nat} {f : Nat → ByteArray}
theorem StrsF.call (h : StrsF w A n cap f) (hb : Below w.heap.size w w') : StrsF w' A n cap f := ⟨h.sl.call hb, h.size⟩
theorem StrsF.le (h : StrsF w A n cap f) : n ≤ 9223372036854775807 := by have := h.sl.max; have := h.sl.le; omega
theorem StrsF.cell (h : StrsF w A n cap f) {j : Nat} (hj : j < n) : ∃ b o, A = some ⟨b, o, none⟩ ∧ b < w.heap.size ∧ w.cell? ⟨b, o + j, none⟩ = some (.string (f j)) := by
  obtain ⟨b, o, e, hB, hc⟩ := h.sl.cell j hj
  have := hc 0 (by omega)
  simp only [Nat.mul_one, Nat.add_zero] at this
  exact ⟨b, o, e, hB, this⟩
theorem StrsF.of_row {g : Nat} {T : TypeId} (h : Row w g T n (fun i => .string (f i))) (hn : n ≤ 9223372036854775807) (hs : ∀ i, i < n → (f i).size ≤ 9223372036854775807) : StrsF w (some ⟨g, 0, none⟩) n n f :=
  have e : ∀ j q, j < n → q < 1 → (fun i => Value.string (f i)) (j * 1 + q) = strC f j q := fun j q _ hq => by
    have hq0 : q = 0 := by omega
    subst hq0
    simp [strC]
  ⟨SliceF.of_row (f := fun i => .string (f i)) (by rw [Nat.mul_one]; exact h) hn (Nat.le_refl _) e, hs⟩
end
theorem StrsF.empty (w : World) (A : Option Addr) (cap : Nat) (h : cap ≤ 9223372036854775807) (f : Nat → ByteArray) : StrsF w A 0 cap f := ⟨SliceF.empty _ _ _ h _ _, fun i hi => absurd hi (by omega)⟩
theorem strs_open {w : World} {x : Addr} {l c : Nat} {f : Nat → ByteArray} (hl : l ≤ c) (hm : c ≤ 9223372036854775807) (h : ∀ i, i < l → w.cell? (x.add i) = some (.string (f i)) ∧ (f i).size ≤ maxLen) : StrsF w (some x) l c f := by
  refine ⟨⟨hm, hl, fun j hj => ?_⟩, fun i hi => by have := (h i hi).2; unfold maxLen at this; omega⟩
  obtain ⟨b, o, s⟩ := x
  have hs : s = none := by
    have h1 := (h 0 (by omega)).1
    simpa [Addr.add] using World.cell?_spot h1
  subst hs
  have h0 := (h j hj).1
  rw [WideShapes.add_plain] at h0
  refine ⟨b, o, rfl, block_lt_of_cell h0, fun q hq => ?_⟩
  obtain rfl : q = 0 := by omega
  rw [Nat.mul_one, Nat.add_zero]
  exact h0
theorem str_info : (Try.prog.info? 9).map (fun i => (i.zero, i.size, i.bytes)) = some (some (.string ByteArray.empty), 1, 16) := by kernel_rfl
theorem ret_int {k : IntKind} {a b : Int} (h : a = b) : Ending.returned (.int k a) = .returned (.int k b) := by rw [h]
/-- the sum of the lengths -/
def sumZ (f : Nat → ByteArray) : Nat → Nat
  | 0 => 0
  | n + 1 => sumZ f n + (f n).size
theorem sumZ_le (f : Nat → ByteArray) {i n : Nat} (h : i ≤ n) : sumZ f i ≤ sumZ f n := by
  induction n with
  | zero => obtain rfl : i = 0 := by omega
            exact Nat.le_refl _
  | succ n ih =>
    by_cases e : i = n + 1
    · subst e; exact Nat.le_refl _
    · have := ih (by omega); simp only [sumZ]; omega
theorem sumZ_one (f : Nat → ByteArray) {i n : Nat} (h : i < n) : (f i).size ≤ sumZ f n := by
  have := sumZ_le f (show i + 1 ≤ n by omega); simp only [sumZ] at this; omega
/-- what is left -/
def leftS (f : Nat → ByteArray) (n : Nat) (k : Int) : Int := if (n : Int) + (sumZ f n : Int) ≤ k then k - (n : Int) - (sumZ f n : Int) else -1
/-- two slices that read alike -/
theorem eqStringS_same (w : World) (A A' : Option Addr) (n cap cap' : Nat) (f : Nat → ByteArray) (h : StrsF w A n cap f) (h' : StrsF w A' n cap' f) :
    Calls Try.prog 20 #[.slice A n cap, .slice A' n cap'] w fun e w' => e = .returned (.bool true) ∧ ∃ m, w' = w.drewN m := by
  have hn := h.le
  have H := Lib.hid h
  have H' := Lib.hid h'
  clear h h'
  go_enter Try.func20, Try.ntmps20
  go_wp2_with fail
  go_loopw [5] (fun i wr => ∃ k m : Nat, k ≤ n ∧ i = .int .i64 (k : Int) ∧ wr = w.drewN m) (fun i _ => n - (intOf i).toNat)
  case atStart => exact ⟨0, 0, Nat.zero_le _, rfl, rfl⟩
  case round =>
    obtain ⟨k, m, hk, rfl, rfl⟩ := hrel
    by_cases hlt : k < n
    · have hlt' : (k : Int) < (n : Int) := by omega
      obtain ⟨b, o, rfl, hB, hc⟩ := H.out.cell hlt
      obtain ⟨b', o', rfl, hB', hc'⟩ := H'.out.cell hlt
      go_wp2_with fail
      go_quiet (fail)
      go_wp2_with fail
      go_roundw
      case rel => exact ⟨k + 1, m + nq, by omega, by go_num, rfl⟩
      case measure => simp [intOf]; omega
    · obtain rfl : k = n := by omega
      go_wp2_with fail
      go_ret
      exact ⟨rfl, m, rfl⟩
end Go.Proofs.Ytkkhaamklbolmaa
