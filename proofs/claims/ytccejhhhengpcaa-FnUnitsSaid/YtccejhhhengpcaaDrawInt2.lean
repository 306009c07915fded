/-
  Contracts of l1PickInt and l1Odd: a number out of a list is drawn.
-/
import Derived.Test.YtccejhhhengpcaaDraw2
namespace Go.Proofs.Ytccejhhhengpcaa
open Go.RowKit
set_option linter.unusedVariables false

theorem l1PickInt_any (B g b n cap : Nat) (w : World) (P : Value → Prop) (c : Cur B w g) (hn : 1 ≤ n) (hn2 : n ≤ 9223372036854775807) (hb : b ≠ g) (hbl : b < w.heap.size)
    (hx : ∀ j, j < n → ∃ z : Int, w.cell? ⟨b, j, none⟩ = some (.int .i64 z) ∧ P (.int .i64 z)) :
    Calls Try.prog 73 #[.pointer (some ⟨g, 0, none⟩), .slice (some ⟨b, 0, none⟩) n cap] w (Drawn B g w P) := by
  have HX := Lib.hid hx
  clear hx
  go_enter Try.func73, Try.ntmps73
  go_wp2_with fail
  refine (l1Below_any B g _ _ c (by omega) (by omega)).mono ?_
  rintro e w1 ⟨v, rfl, ⟨x, rfl, h0, h1⟩, c1, hg1⟩
  obtain ⟨j, rfl⟩ : ∃ j : Nat, x = (j : Int) := ⟨x.toNat, by omega⟩
  have hj : (j : Int) < (n : Int) := by omega
  have hj' : j < n := by omega
  obtain ⟨z, hz, hP⟩ := HX.out j hj'
  have hz1 : w1.cell? ⟨b, j, none⟩ = some (.int .i64 z) := (grown_cell hg1 (p := ⟨b, j, none⟩) hbl hb).trans hz
  clear h1 hz
  have HP := Lib.hid hP
  clear hP
  go_wp2_with fail
  go_ret
  exact ⟨_, rfl, HP.out, c1, hg1⟩

/-- any number of the kind int -/
def AnyInt (v : Value) : Prop := ∃ n : Int, v = .int .i64 n ∧ -9223372036854775808 ≤ n ∧ n ≤ 9223372036854775807

theorem pick_lit {w : World} {T : TypeId} {xs : Array Value} {P : Value → Prop} {n : Nat} (hn : xs.size = n) (h : ∀ v ∈ xs.toList, ∃ z : Int, v = .int .i64 z ∧ P v) :
    ∀ j, j < n → ∃ z : Int, (w.alloc (.cells xs T)).cell? ⟨w.heap.size, j, none⟩ = some (.int .i64 z) ∧ P (.int .i64 z) := by
  intro j hj
  have hj' : j < xs.size := by omega
  obtain ⟨z, hz, hP⟩ := h xs[j] (Array.getElem_mem_toList hj')
  refine ⟨z, ?_, hz ▸ hP⟩
  rw [← hz]
  simp [World.cell?_alloc_new, hj']

theorem l1Odd_any (B g : Nat) (w : World) (c : Cur B w g) :
    Calls Try.prog 68 #[.pointer (some ⟨g, 0, none⟩)] w (Drawn B g w AnyInt) := by
  have hlt := c.lt
  go_enter Try.func68, Try.ntmps68
  go_wp2_with fail
  refine (l1PickInt_any B g w.heap.size 11 11 _ AnyInt ?c1 ?c2 ?c3 ?c4 ?c5 ?c6).mono ?_
  case c1 => exact c.alloc _
  case c2 => omega
  case c3 => omega
  case c4 => omega
  case c5 => simp
  case c6 =>
    refine pick_lit rfl ?_
    intro v hv
    simp at hv
    rcases hv with rfl | rfl | rfl | rfl | rfl | rfl | rfl | rfl | rfl | rfl | rfl <;> exact ⟨_, rfl, _, rfl, by omega, by omega⟩
  rintro e w1 ⟨v, rfl, hP, c1, hg1⟩
  obtain ⟨z, rfl, hz0, hz1⟩ := hP
  go_wp2_with fail
  go_ret
  exact ⟨_, rfl, ⟨_, rfl, hz0, hz1⟩, c1, grown_trans (grown_alloc (World.grownBy.refl _ _) _) hg1⟩
end Go.Proofs.Ytccejhhhengpcaa
