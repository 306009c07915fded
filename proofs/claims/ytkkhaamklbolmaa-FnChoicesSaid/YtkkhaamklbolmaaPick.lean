/-
  Contract of l1Pick: a text out of a list is drawn.
-/
import Derived.Test.YtkkhaamklbolmaaDraw2
namespace Go.Proofs.Ytkkhaamklbolmaa
open Go.RowKit
set_option linter.unusedVariables false

theorem l1Pick_any (B g b n cap : Nat) (w : World) (P : Value → Prop) (c : Cur B w g) (hn : 1 ≤ n) (hn2 : n ≤ 9223372036854775807) (hb : b ≠ g) (hbl : b < w.heap.size)
    (hx : ∀ j, j < n → ∃ z : ByteArray, w.cell? ⟨b, j, none⟩ = some (.string z) ∧ P (.string z)) :
    Calls Try.prog 77 #[.pointer (some ⟨g, 0, none⟩), .slice (some ⟨b, 0, none⟩) n cap] w (Drawn B g w P) := by
  have HX := Lib.hid hx
  clear hx
  go_enter Try.func77, Try.ntmps77
  go_wp2_with fail
  refine (l1Below_any B g _ _ c (by omega) (by omega)).mono ?_
  rintro e w1 ⟨v, rfl, ⟨x, rfl, h0, h1⟩, c1, hg1⟩
  obtain ⟨j, rfl⟩ : ∃ j : Nat, x = (j : Int) := ⟨x.toNat, by omega⟩
  have hj : (j : Int) < (n : Int) := by omega
  have hj' : j < n := by omega
  obtain ⟨z, hz, hP⟩ := HX.out j hj'
  have hz1 : w1.cell? ⟨b, j, none⟩ = some (.string z) := (grown_cell hg1 (p := ⟨b, j, none⟩) hbl hb).trans hz
  clear h1 hz
  have HP := Lib.hid hP
  clear hP
  go_wp2_with fail
  go_ret
  exact ⟨_, rfl, HP.out, c1, hg1⟩
theorem pick_str {w : World} {T : TypeId} {xs : Array Value} {P : Value → Prop} {n : Nat} (hn : xs.size = n) (h : ∀ v ∈ xs.toList, ∃ z : ByteArray, v = .string z ∧ P v) :
    ∀ j, j < n → ∃ z : ByteArray, (w.alloc (.cells xs T)).cell? ⟨w.heap.size, j, none⟩ = some (.string z) ∧ P (.string z) := by
  intro j hj
  have hj' : j < xs.size := by omega
  obtain ⟨z, hz, hP⟩ := h xs[j] (Array.getElem_mem_toList hj')
  refine ⟨z, ?_, hz ▸ hP⟩
  rw [← hz]
  simp [World.cell?_alloc_new, hj']
/-- a short text -/
def Short (m : Nat) (v : Value) : Prop := ∃ z : ByteArray, v = .string z ∧ z.size ≤ m
end Go.Proofs.Ytkkhaamklbolmaa
