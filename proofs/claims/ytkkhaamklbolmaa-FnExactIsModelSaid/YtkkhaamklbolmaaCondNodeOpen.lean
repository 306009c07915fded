/-
  A slice of condNodes that came in, opened. (Printed by gen/recopen.py.)
-/
import Derived.Test.YtkkhaamklbolmaaCondNode
import Derived.Deep.Slices
import Derived.ChangeArms
namespace Go.Proofs.Ytkkhaamklbolmaa
open Go.RowKit Go.WideShapes Go.Deep
set_option linter.unusedVariables false

set_option maxRecDepth 100000 in
theorem condNode_open {H : Type} {enc : TypeId × Value → H} {w : World} {base : Nat} {spare : Nat → Bool} {held : Bool} {fuel : Nat} {cs : List Value} {x : DataW H × List MemPlace}
    (h : DataW.trod enc Try.prog w base spare held fuel 22 cs = some x) :
    cs = [.slice none 0 0] ∨ ∃ (a : Addr) (len cap : Nat) (kd : Nat → Int) (op : Nat → ByteArray) (vl : Nat → ByteArray), cs = [.slice (some a) len cap] ∧ CondNodeF w (some a) len cap kd op vl := by
  rcases open_slice Try.underlying22 h with ⟨h0, _⟩ | ⟨a, len, cap, m, n, D, Pl, rfl, hb, hl, hm, hmm, rfl, hx⟩
  · exact Or.inl h0
  right
  have ce : Try.prog.cellsOf 75 = 3 := by kernel_rfl
  have c0 : Try.prog.cellsOf 3 = 1 := by kernel_rfl
  have c1 : Try.prog.cellsOf 9 = 1 := by kernel_rfl
  have c2 : Try.prog.cellsOf 9 = 1 := by kernel_rfl
  have hlm : len ≤ m := by rw [hmm]; split <;> omega
  have each : ∀ i, i < m → ∃ q : Int × ByteArray × ByteArray, w.cell? (a.add (i * 3)) = some (.int .i64 q.1) ∧ w.cell? (a.add (i * 3 + 1)) = some (.string q.2.1) ∧ w.cell? (a.add (i * 3 + 2)) = some (.string q.2.2) ∧ (Lit.int .i64 q.1).wf = true ∧ q.2.1.size ≤ maxLen ∧ q.2.2.size ≤ maxLen := by
    intro i hi
    obtain ⟨cs', h1, h2⟩ := hx i hi
    rw [ce] at h1
    obtain ⟨_, hlen, hcell⟩ := World.cells?_some h1
    obtain ⟨xs, k, hk, hxy, _, hxl, hf⟩ := DataW.trod_struct Try.underlying75 h2
    have hxl : xs.length = 3 := hxl
    match xs, hxl, cs', hlen with
    | [y0, y1, y2], _, [v0, v1, v2], _ =>
      have g0 : DataW.trod enc Try.prog w base spare held k 3 [v0] = some y0 := by
        have t : DataW.trod enc Try.prog w base spare held k 3 (([v0, v1, v2].drop 0).take (Try.prog.cellsOf 3)) = some y0 := hf 0 _ rfl
        rw [c0] at t; exact t
      have g1 : DataW.trod enc Try.prog w base spare held k 9 [v1] = some y1 := by
        have t : DataW.trod enc Try.prog w base spare held k 9 (([v0, v1, v2].drop 1).take (Try.prog.cellsOf 9)) = some y1 := hf 1 _ rfl
        rw [c1] at t; exact t
      have g2 : DataW.trod enc Try.prog w base spare held k 9 [v2] = some y2 := by
        have t : DataW.trod enc Try.prog w base spare held k 9 (([v0, v1, v2].drop 2).take (Try.prog.cellsOf 9)) = some y2 := hf 2 _ rfl
        rw [c2] at t; exact t
      obtain ⟨z0, e0, _, w0⟩ := DataW.trod_int Try.underlying3 g0
      have k0 := hcell 0 (by omega)
      obtain ⟨z1, e1, _, w1⟩ := DataW.trod_string Try.underlying9 g1
      have k1 := hcell 1 (by omega)
      obtain ⟨z2, e2, _, w2⟩ := DataW.trod_string Try.underlying9 g2
      have k2 := hcell 2 (by omega)
      rw [add_add] at k0 k1 k2
      simp at e0 e1 e2
      subst e0 e1 e2
      exact ⟨(z0, z1, z2), by simpa using k0, by simpa using k1, by simpa using k2, w0, w1, w2⟩
  obtain ⟨q, hq⟩ := choose_lt each
  refine ⟨a, len, cap, fun i => (q i).1, fun i => (q i).2.1, fun i => (q i).2.2, rfl, ?_⟩
  obtain ⟨b, o, s⟩ := a
  have hs : 0 < len → s = none := fun h0 => by
    have h1 := (hq 0 (by omega)).1
    simpa [Addr.add] using World.cell?_spot h1
  have e1 : IntKind.i64.min = -9223372036854775808 := rfl
  have e2 : IntKind.i64.max = 9223372036854775807 := rfl
  refine ⟨⟨by unfold maxLen at hm; omega, hl, fun j hj => ?_⟩, fun i hi => by obtain ⟨hc0, hc1, hc2, hw0, hw1, hw2⟩ := hq i (by omega); simpa [Lit.wf, e1, e2] using hw0, fun i hi => by obtain ⟨hc0, hc1, hc2, hw0, hw1, hw2⟩ := hq i (by omega); unfold maxLen at hw1; omega, fun i hi => by obtain ⟨hc0, hc1, hc2, hw0, hw1, hw2⟩ := hq i (by omega); unfold maxLen at hw2; omega⟩
  · have hs' := hs (by omega)
    subst hs'
    obtain ⟨hc0, hc1, hc2, hw0, hw1, hw2⟩ := hq j (by omega)
    rw [add_plain] at hc0 hc1 hc2
    refine ⟨b, o, rfl, block_lt_of_cell hc0, fun q hq => ?_⟩
    rcases (by omega : q = 0 ∨ q = 1 ∨ q = 2) with rfl | rfl | rfl
    · simpa [condNodeC, Nat.add_assoc] using hc0
    · simpa [condNodeC, Nat.add_assoc] using hc1
    · simpa [condNodeC, Nat.add_assoc] using hc2
end Go.Proofs.Ytkkhaamklbolmaa
