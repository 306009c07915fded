/-
  Slices whose elements take several cells: how they read.
-/
import Derived.Test.YtkbmlpnfdogioaaLists
namespace Go.Proofs.Ytkbmlpnfdogioaa
open Go.RowKit
set_option linter.unusedVariables false

/-- element j's cell q holds F j q -/
structure SliceF (w : World) (A : Option Addr) (n cap s : Nat) (F : Nat → Nat → Value) : Prop where
  max : cap ≤ 9223372036854775807
  le : n ≤ cap
  cell : ∀ j, j < n → ∃ b o, A = some ⟨b, o, none⟩ ∧ b < w.heap.size ∧ ∀ q, q < s → w.cell? ⟨b, o + j * s + q, none⟩ = some (F j q)
section
variable {w w' : World} {A : Option Addr} {n cap s : Nat} {F F' : Nat → Nat → Value}
theorem SliceF.call (h : SliceF w A n cap s F) (hb : Below w.heap.size w w') : SliceF w' A n cap s F :=
  ⟨h.max, h.le, fun j hj => by
    obtain ⟨b, o, e, hB, hc⟩ := h.cell j hj
    exact ⟨b, o, e, Nat.lt_of_lt_of_le hB hb.size, fun q hq => (hb.cell (p := ⟨b, o + j * s + q, none⟩) hB).trans (hc q hq)⟩⟩
theorem SliceF.grown {r : Nat} (h : SliceF w A n cap s F) (hg : w.grownBy w' (some r)) (hr : ∀ b o, A = some ⟨b, o, none⟩ → b ≠ r) : SliceF w' A n cap s F :=
  ⟨h.max, h.le, fun j hj => by
    obtain ⟨b, o, e, hB, hc⟩ := h.cell j hj
    exact ⟨b, o, e, Nat.lt_of_lt_of_le hB hg.size, fun q hq => (grown_cell hg (p := ⟨b, o + j * s + q, none⟩) hB (hr b o e)).trans (hc q hq)⟩⟩
theorem SliceF.alloc (h : SliceF w A n cap s F) (o : Obj) : SliceF (w.alloc o) A n cap s F := h.call ((Below.refl _ _).alloc (Nat.le_refl _) _)
theorem SliceF.drewN (h : SliceF w A n cap s F) (k : Nat) : SliceF (w.drewN k) A n cap s F := h.call ⟨rfl, rfl, rfl, Nat.le_refl _, fun _ _ => rfl⟩
theorem SliceF.congr (h : SliceF w A n cap s F) (he : ∀ j q, j < n → q < s → F j q = F' j q) : SliceF w A n cap s F' :=
  ⟨h.max, h.le, fun j hj => by
    obtain ⟨b, o, e, hB, hc⟩ := h.cell j hj
    exact ⟨b, o, e, hB, fun q hq => (hc q hq).trans (by rw [he j q hj hq])⟩⟩
theorem SliceF.empty (w : World) (A : Option Addr) (cap : Nat) (h : cap ≤ 9223372036854775807) (s : Nat) (F : Nat → Nat → Value) : SliceF w A 0 cap s F := ⟨h, Nat.zero_le _, fun j hj => absurd hj (by omega)⟩
theorem SliceF.short {m : Nat} (h : SliceF w A n cap s F) (hm : m ≤ n) : SliceF w A m cap s F := ⟨h.max, by have := h.le; omega, fun j hj => h.cell j (by omega)⟩
theorem SliceF.of_row {g : Nat} {T : TypeId} {f : Nat → Value} (h : Row w g T (n * s) f) (hc : cap ≤ 9223372036854775807) (hn : n ≤ cap) (he : ∀ j q, j < n → q < s → f (j * s + q) = F j q) : SliceF w (some ⟨g, 0, none⟩) n cap s F :=
  ⟨hc, hn, fun j hj => ⟨g, 0, rfl, h.lt, fun q hq => by
    have h1 : j * s + q < n * s := by
      have : (j + 1) * s ≤ n * s := Nat.mul_le_mul_right _ hj
      rw [Nat.add_mul, Nat.one_mul] at this
      omega
    rw [Nat.zero_add, ← he j q hj hq]; exact h.cell h1⟩⟩
end
end Go.Proofs.Ytkbmlpnfdogioaa
