/-
  Cells that stay as they are: a list of cells with what they hold, carried over calls, new blocks, draws and stores elsewhere.
-/
import Derived.WalkKit
import Derived.Below
import Derived.Deep.Draws
namespace Go.Proofs.Ytkkhaamklbolmaa
open Go.RowKit

/-- these cells hold these values, and below the heap's size at w nothing has turned -/
structure Kept (w : World) (F : List (Addr × Value)) (W : World) : Prop where
  lt : ∀ f ∈ F, f.1.block < W.heap.size
  cell : ∀ f ∈ F, W.cell? f.1 = some f.2
  below : Below w.heap.size w W
theorem Kept.move {F : List (Addr × Value)} {w X Y : World} (h : Kept w F X) (hz : X.heap.size ≤ Y.heap.size) (hc : ∀ f ∈ F, Y.cell? f.1 = X.cell? f.1) (hb : Below w.heap.size X Y) : Kept w F Y :=
  ⟨fun f hf => Nat.lt_of_lt_of_le (h.lt f hf) hz, fun f hf => (hc f hf).trans (h.cell f hf), h.below.trans hb⟩
theorem Kept.call {F : List (Addr × Value)} {w X Y : World} (hb : Below X.heap.size X Y) (h : Kept w F X) : Kept w F Y :=
  h.move hb.size (fun f hf => hb.cell (h.lt f hf)) (hb.mono h.below.size)
theorem Kept.alloc {F : List (Addr × Value)} {w X : World} (h : Kept w F X) (o : Obj) : Kept w F (X.alloc o) :=
  h.move (by simp) (fun f hf => World.cell?_alloc_lt _ _ _ (h.lt f hf)) ((Below.refl _ _).alloc h.below.size _)
theorem Kept.drew {F : List (Addr × Value)} {w X : World} (h : Kept w F X) : Kept w F X.drew := h.move (Nat.le_refl _) (fun _ _ => rfl) (Below.refl _ _).drew
theorem Kept.drewN {F : List (Addr × Value)} {w X : World} (h : Kept w F X) (n : Nat) : Kept w F (X.drewN n) := h.move (Nat.le_refl _) (fun _ _ => rfl) ⟨rfl, rfl, rfl, Nat.le_refl _, fun _ _ => rfl⟩
theorem Kept.setCell {F : List (Addr × Value)} {w X : World} (h : Kept w F X) {p : Addr} (h0 : w.heap.size ≤ p.block) (hp : ∀ f ∈ F, f.1.block ≠ p.block) (v : Value) : Kept w F (X.setCell p v) :=
  h.move (by simp [World.setCell]) (fun f hf => World.cell?_setCell_other _ _ _ _ (by intro e; exact hp f hf (by rw [← e]))) ((Below.refl _ _).setCell h0 _)
theorem Kept.cons {F : List (Addr × Value)} {w W : World} (h : Kept w F W) {a : Addr} {v : Value} (hl : a.block < W.heap.size) (hc : W.cell? a = some v) : Kept w ((a, v) :: F) W :=
  ⟨fun f hf => (by
      rcases List.mem_cons.1 hf with rfl | k
      · exact hl
      · exact h.lt f k), fun f hf => (by
      rcases List.mem_cons.1 hf with rfl | k
      · exact hc
      · exact h.cell f k), h.below⟩
theorem Kept.nil {w : World} : Kept w [] w := ⟨fun _ h => (by cases h), fun _ h => (by cases h), Below.refl _ _⟩
theorem Kept.four {w W : World} {a0 a1 a2 a3 : Addr} {v0 v1 v2 v3 : Value} (h : Kept w [(a0, v0), (a1, v1), (a2, v2), (a3, v3)] W) :
    W.cell? a0 = some v0 ∧ W.cell? a1 = some v1 ∧ W.cell? a2 = some v2 ∧ W.cell? a3 = some v3 ∧ Kept w [(a0, v0), (a1, v1), (a2, v2), (a3, v3)] W :=
  ⟨h.cell (a0, v0) (by simp), h.cell (a1, v1) (by simp), h.cell (a2, v2) (by simp), h.cell (a3, v3) (by simp), h⟩
theorem Kept.six {w W : World} {a0 a1 a2 a3 a4 a5 : Addr} {v0 v1 v2 v3 v4 v5 : Value} (h : Kept w [(a0, v0), (a1, v1), (a2, v2), (a3, v3), (a4, v4), (a5, v5)] W) :
    W.cell? a0 = some v0 ∧ W.cell? a1 = some v1 ∧ W.cell? a2 = some v2 ∧ W.cell? a3 = some v3 ∧ W.cell? a4 = some v4 ∧ W.cell? a5 = some v5 ∧ Kept w [(a0, v0), (a1, v1), (a2, v2), (a3, v3), (a4, v4), (a5, v5)] W :=
  ⟨h.cell (a0, v0) (by simp), h.cell (a1, v1) (by simp), h.cell (a2, v2) (by simp), h.cell (a3, v3) (by simp), h.cell (a4, v4) (by simp), h.cell (a5, v5) (by simp), h⟩
theorem Kept.eight {w W : World} {a0 a1 a2 a3 a4 a5 a6 a7 : Addr} {v0 v1 v2 v3 v4 v5 v6 v7 : Value} (h : Kept w [(a0, v0), (a1, v1), (a2, v2), (a3, v3), (a4, v4), (a5, v5), (a6, v6), (a7, v7)] W) :
    W.cell? a0 = some v0 ∧ W.cell? a1 = some v1 ∧ W.cell? a2 = some v2 ∧ W.cell? a3 = some v3 ∧ W.cell? a4 = some v4 ∧ W.cell? a5 = some v5 ∧ W.cell? a6 = some v6 ∧ W.cell? a7 = some v7 ∧ Kept w [(a0, v0), (a1, v1), (a2, v2), (a3, v3), (a4, v4), (a5, v5), (a6, v6), (a7, v7)] W :=
  ⟨h.cell (a0, v0) (by simp), h.cell (a1, v1) (by simp), h.cell (a2, v2) (by simp), h.cell (a3, v3) (by simp), h.cell (a4, v4) (by simp), h.cell (a5, v5) (by simp), h.cell (a6, v6) (by simp), h.cell (a7, v7) (by simp), h⟩
end Go.Proofs.Ytkkhaamklbolmaa
